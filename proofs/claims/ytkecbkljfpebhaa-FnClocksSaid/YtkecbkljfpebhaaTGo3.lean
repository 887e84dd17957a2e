/- The walk: numbers, truth values, strings, structs, appends. No conditions. -/
import Derived.Test.YtkecbkljfpebhaaTGo2
import Derived.ChangeKeysEq
namespace Go.TL
set_option linter.unusedSimpArgs false
open Go.RowKit

/-! ### Numbers -/
@[go_sem] theorem bnot (p : Prop) [Decidable p] : (!decide p) = decide (¬ p) := by by_cases h : p <;> simp [h]
attribute [go_sem] wrap64_in Int.tdiv_eq_ediv_of_nonneg Int.tmod_eq_emod_of_nonneg Decidable.not_not
@[go_sem] theorem mod256 {x : Int} (h : 0 ≤ x ∧ x < 256) : x % 256 = x := Int.emod_eq_of_lt h.1 h.2
@[go_sem] theorem wrap64_mod (x : Int) : wrap64 x % 256 = x % 256 := by unfold wrap64; omega
@[go_sem] theorem shr64' {x b : Int} (h : 0 ≤ b ∧ b ≤ 63) : shrI .i64 x b = x / 2 ^ b.toNat := by
  have := shr64 x b.toNat (by omega)
  rw [Int.toNat_of_nonneg h.1] at this
  exact this
@[go_sem] theorem shl64' {x b : Int} (h : 0 ≤ b ∧ b ≤ 63) : IntKind.i64.wrap (x * 2 ^ min b.toNat IntKind.i64.bits) = wrap64 (x * 2 ^ b.toNat) := by
  rw [show min b.toNat IntKind.i64.bits = b.toNat by simp only [IntKind.bits]; omega, IntWalk.i64_left]
@[go_sem] theorem and64_127 {x : Int} (h : 0 ≤ x ∧ x < 9223372036854775808) : and64 x 127 = x % 128 := and64_mask 7 (by decide) x h.1 (by omega) 127 rfl
@[go_sem] theorem and64_255 {x : Int} (h : 0 ≤ x ∧ x < 9223372036854775808) : and64 x 255 = x % 256 := and64_mask 8 (by decide) x h.1 (by omega) 255 rfl
@[go_sem] theorem or64_128 {x : Int} (h : 0 ≤ x ∧ x < 128) : or64 x 128 = x + 128 := or64_high 7 (by decide) x h.1 (by omega) 128 rfl

@[go_sem] theorem one_int (k : IntKind) (x : Int) : (Value.int k x).oneCell' = true := rfl
@[go_sem] theorem one_str (s : ByteArray) : (Value.string s).oneCell' = true := rfl
@[go_sem] theorem one_bool (b : Bool) : (Value.bool b).oneCell' = true := rfl
@[go_sem] theorem one_nil : (Value.slice none 0 0).oneCell' = true := rfl
attribute [go_sem] Bool.true_eq_false

@[go_sem] theorem mm_min (k q : IntKind) (x y : Int) : minMaxT false [.v (.int k x), .v (.int q y)] = some (.v (.int k (min x y))) := by
  simp only [minMaxT, List.foldlM_cons, List.foldlM_nil, Option.bind_eq_bind, Option.bind_some]
  congr 3
  by_cases h : y < x
  · simp [h]; omega
  · simp [h]; omega
@[go_sem] theorem mm_max (k q : IntKind) (x y : Int) : minMaxT true [.v (.int k x), .v (.int q y)] = some (.v (.int k (max x y))) := by
  simp only [minMaxT, List.foldlM_cons, List.foldlM_nil, Option.bind_eq_bind, Option.bind_some]
  congr 3
  by_cases h : y > x
  · simp [h]; omega
  · simp [h]; omega

/-! ### Truth values -/
@[go_sem] theorem un_not (P : Program) (p : Prop) [Decidable p] : unT P .not (.v (.bool (decide p))) = some (.v (.bool (decide (¬ p)))) := by simp [unT, toV, Op.unary, ofV]
@[go_sem] theorem un_neg (P : Program) (x : Int) : unT P .neg (.v (.int .i64 x)) = some (.v (.int .i64 (wrap64 (-x)))) := by simp [unT, toV, Op.unary, Op.intArith, ofV, IntWalk.i64_left]
@[go_sem] theorem pick_t (x y : T) : pickT (.v (.bool true)) x y = some x := rfl
@[go_sem] theorem pick_f (x y : T) : pickT (.v (.bool false)) x y = some y := rfl
@[go_sem] theorem pick_or (p q : Prop) [Decidable p] [Decidable q] : pickT (.v (.bool (decide p))) (.v (.bool true)) (.v (.bool (decide q))) = some (.v (.bool (decide (p ∨ q)))) := by by_cases h : p <;> simp [pickT, h]
@[go_sem] theorem pick_and (p q : Prop) [Decidable p] [Decidable q] : pickT (.v (.bool (decide p))) (.v (.bool (decide q))) (.v (.bool false)) = some (.v (.bool (decide (p ∧ q)))) := by by_cases h : p <;> simp [pickT, h]
@[go_sem] theorem pick_org (p q : Prop) [Decidable p] [Decidable q] : pickT (.v (.bool (decide p))) (.v (.bool true)) (gT (¬ p) (.v (.bool (decide q)))) = some (.v (.bool (decide (p ∨ q)))) := by by_cases h : p <;> simp [pickT, gT, h]
@[go_sem] theorem pick_org' (p q : Prop) [Decidable p] [Decidable q] : pickT (.v (.bool (decide (¬ p)))) (.v (.bool true)) (gT p (.v (.bool (decide q)))) = some (.v (.bool (decide (¬ p ∨ q)))) := by by_cases h : p <;> simp [pickT, gT, h]
@[go_sem] theorem pick_andg (p q : Prop) [Decidable p] [Decidable q] : pickT (.v (.bool (decide p))) (gT p (.v (.bool (decide q)))) (.v (.bool false)) = some (.v (.bool (decide (p ∧ q)))) := by by_cases h : p <;> simp [pickT, gT, h]
@[go_sem] theorem dec_bool (p : Prop) [Decidable p] : decide (decide p = true) = decide p := by by_cases h : p <;> simp [h]
section
variable (P : Program) (t : TypeId) (xo yo : Operand)
theorem b_beq0 {P : Program} {t : TypeId} (h : P.underlying t = some .bool) (a b : Bool) : pureRun P (Op.equal t (.bool a) (.bool b)) = some (a == b) := by
  unfold Op.equal
  rw [show Op.maxDepth = (Op.maxDepth - 1) + 1 by decide]
  unfold Op.equalIn
  simp only [underlying, pureRun_bind, pureRun_program, Option.bind_some, h]
  rfl
variable {P t} in
theorem b_beq (h : P.underlying t = some .bool) (p q : Prop) [Decidable p] [Decidable q] : binT P .eql t xo yo (.v (.bool (decide p))) (.v (.bool (decide q))) = some (.v (.bool (decide (p ↔ q)))) := by
  by_cases hp : p <;> by_cases hq : q <;> simp [binT, toV, eqGuard, binOp, ofV, hp, hq, b_beq0 h]
variable {P t} in
theorem b_bne (h : P.underlying t = some .bool) (p q : Prop) [Decidable p] [Decidable q] : binT P .neq t xo yo (.v (.bool (decide p))) (.v (.bool (decide q))) = some (.v (.bool (decide (¬ (p ↔ q))))) := by
  by_cases hp : p <;> by_cases hq : q <;> simp [binT, toV, eqGuard, binOp, ofV, hp, hq, b_beq0 h]
/-! ### Strings -/
variable (a b : ByteArray)
@[go_sem] theorem b_seql : binT P .eql t xo yo (.v (.string a)) (.v (.string b)) = some (.v (.bool (decide (a = b)))) := by
  simp [binT, toV, eqGuard, binOp, Op.stringOp, ofV, str_eq]
@[go_sem] theorem b_sneq : binT P .neq t xo yo (.v (.string a)) (.v (.string b)) = some (.v (.bool (decide (¬ a = b)))) := by
  simp [binT, toV, eqGuard, binOp, Op.stringOp, ofV, str_eq]
@[go_sem] theorem b_sadd (h : (a.size : Int) + (b.size : Int) ≤ 9223372036854775807) : binT P .add t xo yo (.v (.string a)) (.v (.string b)) = some (.v (.string (a ++ b))) := by
  simp [binT, toV, eqGuard, binOp, Op.stringOp, ofV, h]
end

theorem numsT_row : ∀ l : List Int, numsT (rowT u8C l) = some l
  | [] => rfl
  | x :: l => by
    have := numsT_row l
    simp only [rowT_cons, u8C, List.cons_append, List.nil_append, numsT]
    rw [this]; rfl
@[go_sem] theorem conv_str (P : Program) (S : Store) (src dst : TypeId) (s : ByteArray) : convT P S src dst (.v (.string s)) = match P.underlying src, P.underlying dst with
    | some _, some .string => some (.v (.string s), S)
    | some _, some (.slice e) => match P.underlying e with
      | some (.int .u8) => some (.ref S.length [] 0 (strL s).length, S ++ [⟨1, true, rowT u8C (strL s)⟩])
      | _ => none
    | _, _ => none := by
  simp only [convT, bytes_row, strL_length]; rfl
def convB (x : Option (Nat × List T)) (off n : Nat) : Option ByteArray :=
  match x with
  | some (_, cs) => match numsT ((cs.drop off).take n) with
    | some ns => if ns.length = n then some (strOfT ns) else none
    | none => none
  | none => none
@[go_sem] theorem conv_ref (P : Program) (S : Store) (src dst : TypeId) (r off n : Nat) (p : List Nat) : convT P S src dst (.ref r p off n) = if byteSlice P src = true then match P.underlying dst with
    | some .string => (convB (S.at false r p) off n).map fun s => (.v (.string s), S)
    | _ => none else none := by
  simp only [convT, convB]
  split
  · generalize P.underlying dst = u
    cases u with
    | none => rfl
    | some u =>
      cases u with
      | string =>
        dsimp only
        cases S.at false r p with
        | none => rfl
        | some x =>
          dsimp only
          cases numsT ((x.2.drop off).take n) with
          | none => rfl
          | some ns => dsimp only; split <;> rfl
      | _ => rfl
  · rfl
@[go_sem] theorem convB_row (e : Nat) (l : List Int) : convB (some (e, rowT u8C l)) 0 l.length = some (strOfT l) := by
  have e1 : List.take l.length (rowT u8C l) = rowT u8C l := List.take_of_length_le (by rw [rowT_len u8E.len]; omega)
  simp only [convB, List.drop_zero, e1, numsT_row, if_true]
@[go_sem] theorem strOf_nil : strOfT [] = ⟨#[]⟩ := rfl
@[go_sem] theorem conv_sl (P : Program) (S : Store) (src dst : TypeId) (k : Nat) (l : List Int) : convT P S src dst (.sl false k l.length 1 (rowT u8C l)) = if byteSlice P src = true then match P.underlying dst with
    | some .string => some (.v (.string (strOfT l)), S)
    | _ => none else none := by
  by_cases hb : byteSlice P src = true
  · rw [if_pos hb]
    simp only [convT, hb, if_true, numsT_row]
    generalize P.underlying dst = u
    cases u with
    | none => rfl
    | some u =>
      cases u with
      | string =>
        dsimp only
        split
        · rfl
        · have : l = [] := List.eq_nil_of_length_eq_zero (by omega)
          subst this; rfl
      | _ => rfl
  · rw [if_neg hb]
    simp only [convT, if_neg hb]

/-! ### Structs -/
def fldsOf (P : Program) (t : TypeId) : Option (List (Nat × Nat)) :=
  match P.underlying t with
  | some (.struct fs) => fldsT P fs.toList
  | _ => none
def eArr (P : Program) (t : TypeId) : Option Nat :=
  match P.underlying t with
  | some (.array _ e) => szT P e
  | _ => none
@[go_sem] theorem build_eq (P : Program) (S : Store) (t : TypeId) (ps : List (Nat × T)) : buildT P S t ps = (match zeroT P t with
    | some zs => if partsOk S ps = false then none else match fldsOf P t with
      | some l => (fillT (fun i => l[i]?) zs ps).map .agg
      | none => (eArr P t).bind fun sz => (fillT (fun i => some (i * sz, sz)) zs ps).map .agg
    | none => none) := by
  unfold buildT fldsOf eArr
  cases zeroT P t with
  | none => rfl
  | some zs =>
    dsimp only
    split
    · rfl
    · generalize P.underlying t = u
      cases u with
      | none => rfl
      | some u =>
        cases u with
        | struct fs => dsimp only; cases fldsT P fs.toList <;> rfl
        | _ => rfl

def eqFlds (P : Program) (t : TypeId) : Option (List (TypeId × Nat)) :=
  match P.underlying t with
  | some (.struct fs) => if P.stoodInHeld t = false ∧ (fs.toList.all fun f => f.name != "_") = true then some (fs.toList.map fun f => (f.type, f.offset)) else none
  | _ => none

def eqL (P : Program) (m : Nat) : List (TypeId × Nat) → List Value → List Value → Option Bool
  | [], _, _ => some true
  | (ty, off) :: l, xs, ys => match aggT P ty, szT P ty with
    | some agg, some n => if off + n ≤ xs.length ∧ off + n ≤ ys.length ∧ (agg = false → n = 1) then
        match eqC P m ty ((xs.drop off).take n) ((ys.drop off).take n), eqL P m l xs ys with
        | some a, some b => some (a && b)
        | _, _ => none
      else none
    | _, _ => none

theorem eqL_eq {P : Program} (m : Nat) : ∀ (fs : List Field) (xs ys : List Value), (fs.all fun f => f.name != "_") = true → eqCs P m fs xs ys = eqL P m (fs.map fun f => (f.type, f.offset)) xs ys
  | [], xs, ys, _ => by simp [eqCs, eqL]
  | f :: fs, xs, ys, h => by
    simp only [List.all_cons, Bool.and_eq_true, bne_iff_ne, ne_eq] at h
    rw [eqCs, if_neg h.1, List.map_cons, eqL, eqL_eq m fs xs ys h.2]
    rfl

theorem eqC_struct {P : Program} {m : Nat} {t : TypeId} {l : List (TypeId × Nat)} (h : eqFlds P t = some l) (xs ys : List Value) : eqC P (m + 1) t xs ys = eqL P m l xs ys := by
  unfold eqFlds at h
  split at h
  · rename_i fs hu
    split at h
    · rename_i hc
      cases h
      unfold eqC
      simp only [hu, hc.1, if_true]
      exact eqL_eq m fs.toList xs ys hc.2
    · cases h
  · cases h

theorem eqC_int {P : Program} {m : Nat} {t : TypeId} {q : IntKind} (h : P.underlying t = some (.int q)) (k : IntKind) (a b : Int) : eqC P (m + 1) t [.int k a] [.int k b] = some (decide (a = b)) := by
  unfold eqC; simp [h]
theorem eqC_str {P : Program} {m : Nat} {t : TypeId} (h : P.underlying t = some .string) (a b : ByteArray) : eqC P (m + 1) t [.string a] [.string b] = some (decide (a = b)) := by
  unfold eqC; simp [h]
theorem eqC_bool {P : Program} {m : Nat} {t : TypeId} (h : P.underlying t = some .bool) (a b : Bool) : eqC P (m + 1) t [.bool a] [.bool b] = some (a == b) := by
  unfold eqC; simp [h]

theorem eqAgg_t {P : Program} {t : TypeId} {l : List (TypeId × Nat)} (hg : P.eqGuardType P.depth t = false) (hag : aggT P t = some true) (hf : eqFlds P t = some l) (neg : Bool) (xs ys : List T) :
    eqAggT P neg t (.agg xs) (.agg ys) = (match toVs xs, toVs ys with
      | some us, some ws => (eqL P 19 l us ws).map fun b => .v (.bool (if neg = true then !b else b))
      | _, _ => none) := by
  simp only [eqAggT, toV]
  cases toVs xs with
  | none => rfl
  | some us =>
    cases toVs ys with
    | none => rfl
    | some ws =>
      simp only [Option.map_some]
      rw [if_pos ⟨hg, hag⟩, eqC_struct hf]
attribute [go_sem] implies_true imp_self true_implies toV toVs eqL List.take_succ_cons List.drop_succ_cons List.take_nil List.drop_nil
@[go_sem] theorem dec_and (p q : Prop) [Decidable p] [Decidable q] : (decide p && decide q) = decide (p ∧ q) := by by_cases h : p <;> by_cases k : q <;> simp [h, k]
@[go_sem] theorem dec_beq (p q : Prop) [Decidable p] [Decidable q] : (decide p == decide q) = decide (p ↔ q) := by by_cases h : p <;> by_cases k : q <;> simp [h, k]

/-! ### Rows that are made -/
def chkP (c : Prop) [Decidable c] (x : Option (T × Store)) : Option (T × Store) := if c then x else none
@[go_sem] theorem chkP_pos {c : Prop} [Decidable c] (h : c) (x : Option (T × Store)) : chkP c x = x := if_pos h
@[go_sem] theorem chkP_true (x : Option (T × Store)) : chkP True x = x := if_pos trivial
@[go_sem] theorem chk_true (x : Option T) : chk True x = x := if_pos trivial
def mkR (zs : List T) (n : Nat) : Nat × List T := (n, repT zs n)
theorem repT_enc {α : Type} (enc : α → List T) (x : α) : ∀ n, repT (enc x) n = rowT enc (List.replicate n x)
  | 0 => rfl
  | n + 1 => by rw [repT_s, repT_enc enc x n, List.replicate_succ, rowT_cons]
theorem mkR_enc {α : Type} (enc : α → List T) (x : α) (n : Nat) : mkR (enc x) n = ((List.replicate n x).length, rowT enc (List.replicate n x)) := by rw [mkR, repT_enc, List.length_replicate]
@[go_sem] theorem mkR_str (s : ByteArray) (n : Nat) : mkR [.v (.string s)] n = ((List.replicate n s).length, rowT strC (List.replicate n s)) := mkR_enc strC s n
@[go_sem] theorem mkR_i64 (x : Int) (n : Nat) : mkR [.v (.int .i64 x)] n = ((List.replicate n x).length, rowT i64C (List.replicate n x)) := mkR_enc i64C x n
@[go_sem] theorem mkR_u8 (x : Int) (n : Nat) : mkR [.v (.int .u8 x)] n = ((List.replicate n x).length, rowT u8C (List.replicate n x)) := mkR_enc u8C x n
@[go_sem] theorem makeSlice_eq (P : Program) (S : Store) (t : TypeId) (q q2 : IntKind) (l c : Int) : makeSliceT P S t (.v (.int q l)) (.v (.int q2 c)) = (match elemT P t with
    | some e => match szT P e, bytesT P e, zeroT P e with
      | some sz, some bs, some zs => chkP (0 ≤ l ∧ l ≤ c ∧ c < 9223372036854775808 ∧ (bs : Int) * c ≤ 281474976710656 ∧ zs.length = sz ∧ 0 < sz) (some (.ref S.length [] 0 (mkR zs l.toNat).1, S ++ [⟨sz, true, (mkR zs l.toNat).2⟩]))
      | _, _, _ => none
    | none => none) := rfl

/-! ### Appends -/
theorem app_own {P : Program} {S : Store} {t ty2 e : TypeId} {sz bs : Nat} {zs : List T} {α : Type} {enc : α → List T} (he : ∀ x, (enc x).length = sz) (h0 : 0 < sz) {y : T} {r : Nat} {l1 l2 : List α} (h1 : elemT P t = some e) (h2 : szT P e = some sz) (h3 : bytesT P e = some bs) (h4 : zeroT P e = some zs) (h6 : zs.length = sz) (h5 : notInt P ty2 = true)
    (hy : srcT S sz y = some (l2.length, rowT enc l2)) (hat : S.at false r [] = some (sz, rowT enc l1)) (hb : (l1.length + l2.length) * bs ≤ 140737488355328) (hb2 : l1.length + l2.length < 2 ^ 63) :
    appendT P S t ty2 (.ref r [] 0 l1.length) y = some (.ref S.length [] 0 (l1 ++ l2).length, S.kill r ++ [⟨sz, true, rowT enc (l1 ++ l2)⟩]) := by
  have e1 : l1.length * sz ≤ (rowT enc l1).length := by rw [rowT_len he]; exact Nat.le_refl _
  have e2 : List.take (l1.length * sz) (rowT enc l1) = rowT enc l1 := List.take_of_length_le (by rw [rowT_len he]; exact Nat.le_refl _)
  simp only [appendT, h1, h2, h3, h4, h5, hy, hat]
  rw [if_pos ⟨trivial, h0, h6⟩]
  simp only [if_pos (⟨trivial, e1, hb, hb2⟩ : True ∧ l1.length * sz ≤ (rowT enc l1).length ∧ (l1.length + l2.length) * bs ≤ 140737488355328 ∧ l1.length + l2.length < 2 ^ 63)]
  simp [rowT_append, e2]

theorem src_str (S : Store) (s : ByteArray) : srcT S 1 (.v (.string s)) = some ((strL s).length, rowT u8C (strL s)) := by
  rw [strL_length, ← bytes_row]
  rfl
theorem src_row {S : Store} {r sz : Nat} {α : Type} {enc : α → List T} [h : RowE enc sz] {l : List α} (hat : S.at false r [] = some (sz, rowT enc l)) : srcT S sz (.ref r [] 0 l.length) = some (l.length, rowT enc l) := by
  have e1 : List.take (l.length * sz) (rowT enc l) = rowT enc l := List.take_of_length_le (by rw [rowT_len h.e.len]; exact Nat.le_refl _)
  simp only [srcT, hat, List.drop_zero, e1, plain_cell (rowT_plain h.e l)]
  rw [if_pos ⟨trivial, by rw [rowT_len h.e.len]; omega, trivial⟩]
/-- Retagged cells. -/
theorem zc_row {α : Type} {enc : α → List T} [RowF enc] (l : List α) : (rowT enc l).map (zc 0) = rowT enc l := by
  have key : ∀ cs : List T, (cs.all fun c => match c with | .v _ => true | .sl false 0 _ _ _ => true | _ => false) = true → cs.map (zc 0) = cs := by
    intro cs
    induction cs with
    | nil => intro _; rfl
    | cons c cs ih =>
      intro h
      simp only [List.all_cons, Bool.and_eq_true] at h
      rw [List.map_cons, ih h.2]
      cases c with
      | v => rfl
      | sl o k => cases o with
        | true => simp at h
        | false => cases k with
          | zero => rfl
          | succ k => simp at h
      | _ => simp at h
  exact key _ (rowF_all l)
/-- Cells of plain values: a tag changes nothing. -/
class RowV {α : Type} (enc : α → List T) : Prop where
  v : ∀ x, (enc x).all (fun c => match c with | .v _ => true | _ => false) = true
instance : RowV u8C := ⟨fun _ => rfl⟩
instance : RowV i64C := ⟨fun _ => rfl⟩
instance : RowV strC := ⟨fun _ => rfl⟩
theorem zc_rowv {α : Type} {enc : α → List T} [h : RowV enc] (k : Nat) (l : List α) : (rowT enc l).map (zc k) = rowT enc l := by
  have key : ∀ cs : List T, (cs.all fun c => match c with | .v _ => true | _ => false) = true → cs.map (zc k) = cs := by
    intro cs
    induction cs with
    | nil => intro _; rfl
    | cons c cs ih =>
      intro h
      simp only [List.all_cons, Bool.and_eq_true] at h
      rw [List.map_cons, ih h.2]
      cases c with
      | v => rfl
      | _ => simp at h
  refine key _ ?_
  simp only [rowT, List.all_flatMap, List.all_eq_true]
  intro x _
  exact List.all_eq_true.1 (h.v x)
theorem src_sl {S : Store} {k sz : Nat} {α : Type} {enc : α → List T} [RowV enc] (l : List α) : srcT S sz (.sl false k l.length sz (rowT enc l)) = some (l.length, rowT enc l) := by
  simp only [srcT, if_true, zc_rowv]
theorem src_sl0 {S : Store} {sz : Nat} {α : Type} {enc : α → List T} [RowF enc] (l : List α) : srcT S sz (.sl false 0 l.length sz (rowT enc l)) = some (l.length, rowT enc l) := by
  simp only [srcT, if_true, zc_row]

theorem src_one {S : Store} {r sz : Nat} {α : Type} {enc : α → List T} {cs : List T} {x : α} (hat : S.at false r [] = some (sz, cs)) (hc : enc x = cs) (hn : cs.length = sz) (hok : cs.all cellOk = true) : srcT S sz (.ref r [] 0 1) = some ([x].length, rowT enc [x]) := by
  subst hc
  subst hn
  have e1 : List.take (1 * (enc x).length) (enc x) = enc x := List.take_of_length_le (by omega)
  simp only [srcT, hat, List.drop_zero, e1, hok, rowT_1]
  rw [if_pos ⟨trivial, by omega, trivial⟩]; rfl

section
variable {P : Program} {n : Nat} {S S2 : Store} {fr : Nat → T} {ops : Array Oper} {d : Nat} {ty : TypeId} {pos : String} {aft : Array Edge} {rest : List Oper} {K : (Nat → T) → Store → Prop} {t ty2 : TypeId} {x y : Operand} {α : Type} {enc : α → List T} {sz : Nat}
/-- An append to a row of one's own. -/
theorem r_app {pu pu' : Dr} {gd : Option (Nat × Bool)} [he : RowE enc sz] (l1 l2 : List α) {r k bs : Nat} {zs : List T} {e : TypeId} (hb : l1.length + l2.length ≤ 100000000) (h : wpOpsT P ops n pu' rest K (upd fr d (.ref k [] 0 (l1 ++ l2).length)) S2)
    (hw : wantedT ops fr ⟨some d, .call ⟨.builtin .append, #[x, y], #[t, ty2]⟩, ty, pos, aft, gd⟩ = some true := by rfl)
    (hx : TL.ev fr x = .ref r [] 0 l1.length := by (first | (simp only [go_sem, ↓reduceIte, Nat.reduceEqDiff, Nat.reduceMul, Nat.reduceAdd, Nat.reduceSub, Nat.reduceLT, Nat.reduceGT, Nat.reduceLeDiff, Nat.reduceBEq, Int.reduceLT, Int.reduceLE, Int.reduceNe, Int.reduceEq, Int.reduceToNat, Int.reduceAdd, Int.reduceSub, Int.reduceMul, Int.reduceNeg, Nat.reducePow, Int.reducePow, Nat.reduceSubDiff, decide_true, decide_false, reduceCtorEq, or_self, or_false, false_or, or_true, true_or, if_false, gt_iff_lt, ge_iff_le, ne_eq, not_true_eq_false, not_false_eq_true, and_self, beq_self_eq_true, Bool.false_eq_true] <;> with_reducible rfl) | with_reducible rfl))
    (hat : S.at false r [] = some (sz, rowT enc l1) := by (first | (simp only [go_sem, ↓reduceIte, Nat.reduceEqDiff, Nat.reduceMul, Nat.reduceAdd, Nat.reduceSub, Nat.reduceLT, Nat.reduceGT, Nat.reduceLeDiff, Nat.reduceBEq, Int.reduceLT, Int.reduceLE, Int.reduceNe, Int.reduceEq, Int.reduceToNat, Int.reduceAdd, Int.reduceSub, Int.reduceMul, Int.reduceNeg, Nat.reducePow, Int.reducePow, Nat.reduceSubDiff, decide_true, decide_false, reduceCtorEq, or_self, or_false, false_or, or_true, true_or, if_false, gt_iff_lt, ge_iff_le, ne_eq, not_true_eq_false, not_false_eq_true, and_self, beq_self_eq_true, Bool.false_eq_true] <;> with_reducible rfl) | with_reducible rfl))
    (hy : srcT S sz (TL.ev fr y) = some (l2.length, rowT enc l2) := by (try simp only [go_sem, ↓reduceIte, Nat.reduceEqDiff, Nat.reduceMul, Nat.reduceAdd, Nat.reduceSub, Nat.reduceLT, Nat.reduceGT, Nat.reduceLeDiff, Nat.reduceBEq, Int.reduceLT, Int.reduceLE, Int.reduceNe, Int.reduceEq, Int.reduceToNat, Int.reduceAdd, Int.reduceSub, Int.reduceMul, Int.reduceNeg, Nat.reducePow, Int.reducePow, Nat.reduceSubDiff, decide_true, decide_false, reduceCtorEq, or_self, or_false, false_or, or_true, true_or, if_false, gt_iff_lt, ge_iff_le, ne_eq, not_true_eq_false, not_false_eq_true, and_self, beq_self_eq_true, Bool.false_eq_true]); first | exact src_str _ _ | exact src_sl _ | exact src_sl0 _ | exact src_row (by (first | (simp only [go_sem, ↓reduceIte, Nat.reduceEqDiff, Nat.reduceMul, Nat.reduceAdd, Nat.reduceSub, Nat.reduceLT, Nat.reduceGT, Nat.reduceLeDiff, Nat.reduceBEq, Int.reduceLT, Int.reduceLE, Int.reduceNe, Int.reduceEq, Int.reduceToNat, Int.reduceAdd, Int.reduceSub, Int.reduceMul, Int.reduceNeg, Nat.reducePow, Int.reducePow, Nat.reduceSubDiff, decide_true, decide_false, reduceCtorEq, or_self, or_false, false_or, or_true, true_or, if_false, gt_iff_lt, ge_iff_le, ne_eq, not_true_eq_false, not_false_eq_true, and_self, beq_self_eq_true, Bool.false_eq_true] <;> with_reducible rfl) | with_reducible rfl)) | exact src_one (by (first | (simp only [go_sem, ↓reduceIte, Nat.reduceEqDiff, Nat.reduceMul, Nat.reduceAdd, Nat.reduceSub, Nat.reduceLT, Nat.reduceGT, Nat.reduceLeDiff, Nat.reduceBEq, Int.reduceLT, Int.reduceLE, Int.reduceNe, Int.reduceEq, Int.reduceToNat, Int.reduceAdd, Int.reduceSub, Int.reduceMul, Int.reduceNeg, Nat.reducePow, Int.reducePow, Nat.reduceSubDiff, decide_true, decide_false, reduceCtorEq, or_self, or_false, false_or, or_true, true_or, if_false, gt_iff_lt, ge_iff_le, ne_eq, not_true_eq_false, not_false_eq_true, and_self, beq_self_eq_true, Bool.false_eq_true] <;> with_reducible rfl) | with_reducible rfl)) rfl rfl (by (first | (simp only [go_sem, ↓reduceIte, Nat.reduceEqDiff, Nat.reduceMul, Nat.reduceAdd, Nat.reduceSub, Nat.reduceLT, Nat.reduceGT, Nat.reduceLeDiff, Nat.reduceBEq, Int.reduceLT, Int.reduceLE, Int.reduceNe, Int.reduceEq, Int.reduceToNat, Int.reduceAdd, Int.reduceSub, Int.reduceMul, Int.reduceNeg, Nat.reducePow, Int.reducePow, Nat.reduceSubDiff, decide_true, decide_false, reduceCtorEq, or_self, or_false, false_or, or_true, true_or, if_false, gt_iff_lt, ge_iff_le, ne_eq, not_true_eq_false, not_false_eq_true, and_self, beq_self_eq_true, Bool.false_eq_true] <;> with_reducible rfl) | with_reducible rfl)) | (simp only [srcT, go_sem, ↓reduceIte, Nat.reduceEqDiff, Nat.reduceMul, Nat.reduceAdd, Nat.reduceSub, Nat.reduceLT, Nat.reduceGT, Nat.reduceLeDiff, Nat.reduceBEq, Int.reduceLT, Int.reduceLE, Int.reduceNe, Int.reduceEq, Int.reduceToNat, Int.reduceAdd, Int.reduceSub, Int.reduceMul, Int.reduceNeg, Nat.reducePow, Int.reducePow, Nat.reduceSubDiff, decide_true, decide_false, reduceCtorEq, or_self, or_false, false_or, or_true, true_or, if_false, gt_iff_lt, ge_iff_le, ne_eq, not_true_eq_false, not_false_eq_true, and_self, beq_self_eq_true, Bool.false_eq_true] <;> rfl) | rfl)
    (h1 : elemT P t = some e := by (first | (simp only [go_sem, ↓reduceIte, Nat.reduceEqDiff, Nat.reduceMul, Nat.reduceAdd, Nat.reduceSub, Nat.reduceLT, Nat.reduceGT, Nat.reduceLeDiff, Nat.reduceBEq, Int.reduceLT, Int.reduceLE, Int.reduceNe, Int.reduceEq, Int.reduceToNat, Int.reduceAdd, Int.reduceSub, Int.reduceMul, Int.reduceNeg, Nat.reducePow, Int.reducePow, Nat.reduceSubDiff, decide_true, decide_false, reduceCtorEq, or_self, or_false, false_or, or_true, true_or, if_false, gt_iff_lt, ge_iff_le, ne_eq, not_true_eq_false, not_false_eq_true, and_self, beq_self_eq_true, Bool.false_eq_true] <;> with_reducible rfl) | with_reducible rfl)) (h2 : szT P e = some sz := by (first | (simp only [go_sem, ↓reduceIte, Nat.reduceEqDiff, Nat.reduceMul, Nat.reduceAdd, Nat.reduceSub, Nat.reduceLT, Nat.reduceGT, Nat.reduceLeDiff, Nat.reduceBEq, Int.reduceLT, Int.reduceLE, Int.reduceNe, Int.reduceEq, Int.reduceToNat, Int.reduceAdd, Int.reduceSub, Int.reduceMul, Int.reduceNeg, Nat.reducePow, Int.reducePow, Nat.reduceSubDiff, decide_true, decide_false, reduceCtorEq, or_self, or_false, false_or, or_true, true_or, if_false, gt_iff_lt, ge_iff_le, ne_eq, not_true_eq_false, not_false_eq_true, and_self, beq_self_eq_true, Bool.false_eq_true] <;> with_reducible rfl) | with_reducible rfl)) (h3 : bytesT P e = some bs := by (first | (simp only [go_sem, ↓reduceIte, Nat.reduceEqDiff, Nat.reduceMul, Nat.reduceAdd, Nat.reduceSub, Nat.reduceLT, Nat.reduceGT, Nat.reduceLeDiff, Nat.reduceBEq, Int.reduceLT, Int.reduceLE, Int.reduceNe, Int.reduceEq, Int.reduceToNat, Int.reduceAdd, Int.reduceSub, Int.reduceMul, Int.reduceNeg, Nat.reducePow, Int.reducePow, Nat.reduceSubDiff, decide_true, decide_false, reduceCtorEq, or_self, or_false, false_or, or_true, true_or, if_false, gt_iff_lt, ge_iff_le, ne_eq, not_true_eq_false, not_false_eq_true, and_self, beq_self_eq_true, Bool.false_eq_true] <;> with_reducible rfl) | with_reducible rfl)) (h4 : zeroT P e = some zs := by (first | (simp only [go_sem, ↓reduceIte, Nat.reduceEqDiff, Nat.reduceMul, Nat.reduceAdd, Nat.reduceSub, Nat.reduceLT, Nat.reduceGT, Nat.reduceLeDiff, Nat.reduceBEq, Int.reduceLT, Int.reduceLE, Int.reduceNe, Int.reduceEq, Int.reduceToNat, Int.reduceAdd, Int.reduceSub, Int.reduceMul, Int.reduceNeg, Nat.reducePow, Int.reducePow, Nat.reduceSubDiff, decide_true, decide_false, reduceCtorEq, or_self, or_false, false_or, or_true, true_or, if_false, gt_iff_lt, ge_iff_le, ne_eq, not_true_eq_false, not_false_eq_true, and_self, beq_self_eq_true, Bool.false_eq_true] <;> with_reducible rfl) | with_reducible rfl)) (h5 : notInt P ty2 = true := by (first | (simp only [go_sem, ↓reduceIte, Nat.reduceEqDiff, Nat.reduceMul, Nat.reduceAdd, Nat.reduceSub, Nat.reduceLT, Nat.reduceGT, Nat.reduceLeDiff, Nat.reduceBEq, Int.reduceLT, Int.reduceLE, Int.reduceNe, Int.reduceEq, Int.reduceToNat, Int.reduceAdd, Int.reduceSub, Int.reduceMul, Int.reduceNeg, Nat.reducePow, Int.reducePow, Nat.reduceSubDiff, decide_true, decide_false, reduceCtorEq, or_self, or_false, false_or, or_true, true_or, if_false, gt_iff_lt, ge_iff_le, ne_eq, not_true_eq_false, not_false_eq_true, and_self, beq_self_eq_true, Bool.false_eq_true] <;> with_reducible rfl) | with_reducible rfl))
    (h6 : (Nat.ble bs 1000 && (zs.length == sz) && Nat.blt 0 sz) = true := by rfl) (hk : S.length = k := by (first | (simp only [go_sem, ↓reduceIte, Nat.reduceEqDiff, Nat.reduceMul, Nat.reduceAdd, Nat.reduceSub, Nat.reduceLT, Nat.reduceGT, Nat.reduceLeDiff, Nat.reduceBEq, Int.reduceLT, Int.reduceLE, Int.reduceNe, Int.reduceEq, Int.reduceToNat, Int.reduceAdd, Int.reduceSub, Int.reduceMul, Int.reduceNeg, Nat.reducePow, Int.reducePow, Nat.reduceSubDiff, decide_true, decide_false, reduceCtorEq, or_self, or_false, false_or, or_true, true_or, if_false, gt_iff_lt, ge_iff_le, ne_eq, not_true_eq_false, not_false_eq_true, and_self, beq_self_eq_true, Bool.false_eq_true] <;> with_reducible rfl) | with_reducible rfl)) (hS : S.kill r ++ [⟨sz, true, rowT enc (l1 ++ l2)⟩] = S2 := by (first | (simp only [go_sem, ↓reduceIte, Nat.reduceEqDiff, Nat.reduceMul, Nat.reduceAdd, Nat.reduceSub, Nat.reduceLT, Nat.reduceGT, Nat.reduceLeDiff, Nat.reduceBEq, Int.reduceLT, Int.reduceLE, Int.reduceNe, Int.reduceEq, Int.reduceToNat, Int.reduceAdd, Int.reduceSub, Int.reduceMul, Int.reduceNeg, Nat.reducePow, Int.reducePow, Nat.reduceSubDiff, decide_true, decide_false, reduceCtorEq, or_self, or_false, false_or, or_true, true_or, if_false, gt_iff_lt, ge_iff_le, ne_eq, not_true_eq_false, not_false_eq_true, and_self, beq_self_eq_true, Bool.false_eq_true] <;> with_reducible rfl) | with_reducible rfl)) (hd : Nat.blt d n = true := by rfl)
    (hp : Dr.step P ops n pu fr S ⟨some d, .call ⟨.builtin .append, #[x, y], #[t, ty2]⟩, ty, pos, aft, gd⟩ (.ref k [] 0 (l1 ++ l2).length) S2 pu' := by first | exact Dr.step.txt | exact dr_chain) :
    wpOpsT P ops n pu (⟨some d, .call ⟨.builtin .append, #[x, y], #[t, ty2]⟩, ty, pos, aft, gd⟩ :: rest) K fr S := by
  simp only [Bool.and_eq_true, beq_iff_eq, Nat.blt_eq] at h6
  have hbs := Nat.le_of_ble_eq_true h6.1.1
  have hm : (l1.length + l2.length) * bs ≤ 100000000 * 1000 := Nat.mul_le_mul hb hbs
  have := app_own (S := S) (ty2 := ty2) he.e.len h6.2 h1 h2 h3 h4 h6.1.2 h5 hy hat (by omega) (by omega)
  refine r_op (opT_do hw (by simpa [okDst, Nat.blt_eq] using hd) rfl ?_) hp h
  show appendX P S t ty2 (TL.ev fr x) (TL.ev fr y) = _
  rw [hx, appX_r, this, hk, hS]

theorem r_appa {pu pu' : Dr} {gd : Option (Nat × Bool)} [he : RowE enc sz] {l1 l2 : List α} {r k bs m : Nat} {zs : List T} {e : TypeId} (h : wpOpsT P ops n pu' rest K (upd fr d (.ref k [] 0 (l1 ++ l2).length)) S2)
    (hw : wantedT ops fr ⟨some d, .call ⟨.builtin .append, #[x, y], #[t, ty2]⟩, ty, pos, aft, gd⟩ = some true := by rfl)
    (hx : TL.ev fr x = .ref r [] 0 m := by (first | (simp only [go_sem, ↓reduceIte, Nat.reduceEqDiff, Nat.reduceMul, Nat.reduceAdd, Nat.reduceSub, Nat.reduceLT, Nat.reduceGT, Nat.reduceLeDiff, Nat.reduceBEq, Int.reduceLT, Int.reduceLE, Int.reduceNe, Int.reduceEq, Int.reduceToNat, Int.reduceAdd, Int.reduceSub, Int.reduceMul, Int.reduceNeg, Nat.reducePow, Int.reducePow, Nat.reduceSubDiff, decide_true, decide_false, reduceCtorEq, or_self, or_false, false_or, or_true, true_or, if_false, gt_iff_lt, ge_iff_le, ne_eq, not_true_eq_false, not_false_eq_true, and_self, beq_self_eq_true, Bool.false_eq_true] <;> with_reducible rfl) | with_reducible rfl))
    (hat : S.at false r [] = some (sz, rowT enc l1) := by (first | (simp only [go_sem, ↓reduceIte, Nat.reduceEqDiff, Nat.reduceMul, Nat.reduceAdd, Nat.reduceSub, Nat.reduceLT, Nat.reduceGT, Nat.reduceLeDiff, Nat.reduceBEq, Int.reduceLT, Int.reduceLE, Int.reduceNe, Int.reduceEq, Int.reduceToNat, Int.reduceAdd, Int.reduceSub, Int.reduceMul, Int.reduceNeg, Nat.reducePow, Int.reducePow, Nat.reduceSubDiff, decide_true, decide_false, reduceCtorEq, or_self, or_false, false_or, or_true, true_or, if_false, gt_iff_lt, ge_iff_le, ne_eq, not_true_eq_false, not_false_eq_true, and_self, beq_self_eq_true, Bool.false_eq_true] <;> with_reducible rfl) | with_reducible rfl))
    (hm : m = l1.length := by first | with_reducible rfl | rfl | (simp only [cat1_len, lit2_len, List.length_replicate, List.length_append, List.length_cons, List.length_nil, List.length_take, List.length_drop, List.length_map, List.length_set]; omega))
    (hy : srcT S sz (TL.ev fr y) = some (l2.length, rowT enc l2) := by (try simp only [go_sem, ↓reduceIte, Nat.reduceEqDiff, Nat.reduceMul, Nat.reduceAdd, Nat.reduceSub, Nat.reduceLT, Nat.reduceGT, Nat.reduceLeDiff, Nat.reduceBEq, Int.reduceLT, Int.reduceLE, Int.reduceNe, Int.reduceEq, Int.reduceToNat, Int.reduceAdd, Int.reduceSub, Int.reduceMul, Int.reduceNeg, Nat.reducePow, Int.reducePow, Nat.reduceSubDiff, decide_true, decide_false, reduceCtorEq, or_self, or_false, false_or, or_true, true_or, if_false, gt_iff_lt, ge_iff_le, ne_eq, not_true_eq_false, not_false_eq_true, and_self, beq_self_eq_true, Bool.false_eq_true]); first | exact src_str _ _ | exact src_sl _ | exact src_sl0 _ | exact src_row (by (first | (simp only [go_sem, ↓reduceIte, Nat.reduceEqDiff, Nat.reduceMul, Nat.reduceAdd, Nat.reduceSub, Nat.reduceLT, Nat.reduceGT, Nat.reduceLeDiff, Nat.reduceBEq, Int.reduceLT, Int.reduceLE, Int.reduceNe, Int.reduceEq, Int.reduceToNat, Int.reduceAdd, Int.reduceSub, Int.reduceMul, Int.reduceNeg, Nat.reducePow, Int.reducePow, Nat.reduceSubDiff, decide_true, decide_false, reduceCtorEq, or_self, or_false, false_or, or_true, true_or, if_false, gt_iff_lt, ge_iff_le, ne_eq, not_true_eq_false, not_false_eq_true, and_self, beq_self_eq_true, Bool.false_eq_true] <;> with_reducible rfl) | with_reducible rfl)) | exact src_one (by (first | (simp only [go_sem, ↓reduceIte, Nat.reduceEqDiff, Nat.reduceMul, Nat.reduceAdd, Nat.reduceSub, Nat.reduceLT, Nat.reduceGT, Nat.reduceLeDiff, Nat.reduceBEq, Int.reduceLT, Int.reduceLE, Int.reduceNe, Int.reduceEq, Int.reduceToNat, Int.reduceAdd, Int.reduceSub, Int.reduceMul, Int.reduceNeg, Nat.reducePow, Int.reducePow, Nat.reduceSubDiff, decide_true, decide_false, reduceCtorEq, or_self, or_false, false_or, or_true, true_or, if_false, gt_iff_lt, ge_iff_le, ne_eq, not_true_eq_false, not_false_eq_true, and_self, beq_self_eq_true, Bool.false_eq_true] <;> with_reducible rfl) | with_reducible rfl)) rfl rfl (by (first | (simp only [go_sem, ↓reduceIte, Nat.reduceEqDiff, Nat.reduceMul, Nat.reduceAdd, Nat.reduceSub, Nat.reduceLT, Nat.reduceGT, Nat.reduceLeDiff, Nat.reduceBEq, Int.reduceLT, Int.reduceLE, Int.reduceNe, Int.reduceEq, Int.reduceToNat, Int.reduceAdd, Int.reduceSub, Int.reduceMul, Int.reduceNeg, Nat.reducePow, Int.reducePow, Nat.reduceSubDiff, decide_true, decide_false, reduceCtorEq, or_self, or_false, false_or, or_true, true_or, if_false, gt_iff_lt, ge_iff_le, ne_eq, not_true_eq_false, not_false_eq_true, and_self, beq_self_eq_true, Bool.false_eq_true] <;> with_reducible rfl) | with_reducible rfl)) | (simp only [srcT, go_sem, ↓reduceIte, Nat.reduceEqDiff, Nat.reduceMul, Nat.reduceAdd, Nat.reduceSub, Nat.reduceLT, Nat.reduceGT, Nat.reduceLeDiff, Nat.reduceBEq, Int.reduceLT, Int.reduceLE, Int.reduceNe, Int.reduceEq, Int.reduceToNat, Int.reduceAdd, Int.reduceSub, Int.reduceMul, Int.reduceNeg, Nat.reducePow, Int.reducePow, Nat.reduceSubDiff, decide_true, decide_false, reduceCtorEq, or_self, or_false, false_or, or_true, true_or, if_false, gt_iff_lt, ge_iff_le, ne_eq, not_true_eq_false, not_false_eq_true, and_self, beq_self_eq_true, Bool.false_eq_true] <;> with_reducible rfl))
    (h1 : elemT P t = some e := by (first | (simp only [go_sem, ↓reduceIte, Nat.reduceEqDiff, Nat.reduceMul, Nat.reduceAdd, Nat.reduceSub, Nat.reduceLT, Nat.reduceGT, Nat.reduceLeDiff, Nat.reduceBEq, Int.reduceLT, Int.reduceLE, Int.reduceNe, Int.reduceEq, Int.reduceToNat, Int.reduceAdd, Int.reduceSub, Int.reduceMul, Int.reduceNeg, Nat.reducePow, Int.reducePow, Nat.reduceSubDiff, decide_true, decide_false, reduceCtorEq, or_self, or_false, false_or, or_true, true_or, if_false, gt_iff_lt, ge_iff_le, ne_eq, not_true_eq_false, not_false_eq_true, and_self, beq_self_eq_true, Bool.false_eq_true] <;> with_reducible rfl) | with_reducible rfl)) (h2 : szT P e = some sz := by (first | (simp only [go_sem, ↓reduceIte, Nat.reduceEqDiff, Nat.reduceMul, Nat.reduceAdd, Nat.reduceSub, Nat.reduceLT, Nat.reduceGT, Nat.reduceLeDiff, Nat.reduceBEq, Int.reduceLT, Int.reduceLE, Int.reduceNe, Int.reduceEq, Int.reduceToNat, Int.reduceAdd, Int.reduceSub, Int.reduceMul, Int.reduceNeg, Nat.reducePow, Int.reducePow, Nat.reduceSubDiff, decide_true, decide_false, reduceCtorEq, or_self, or_false, false_or, or_true, true_or, if_false, gt_iff_lt, ge_iff_le, ne_eq, not_true_eq_false, not_false_eq_true, and_self, beq_self_eq_true, Bool.false_eq_true] <;> with_reducible rfl) | with_reducible rfl)) (h3 : bytesT P e = some bs := by (first | (simp only [go_sem, ↓reduceIte, Nat.reduceEqDiff, Nat.reduceMul, Nat.reduceAdd, Nat.reduceSub, Nat.reduceLT, Nat.reduceGT, Nat.reduceLeDiff, Nat.reduceBEq, Int.reduceLT, Int.reduceLE, Int.reduceNe, Int.reduceEq, Int.reduceToNat, Int.reduceAdd, Int.reduceSub, Int.reduceMul, Int.reduceNeg, Nat.reducePow, Int.reducePow, Nat.reduceSubDiff, decide_true, decide_false, reduceCtorEq, or_self, or_false, false_or, or_true, true_or, if_false, gt_iff_lt, ge_iff_le, ne_eq, not_true_eq_false, not_false_eq_true, and_self, beq_self_eq_true, Bool.false_eq_true] <;> with_reducible rfl) | with_reducible rfl)) (h4 : zeroT P e = some zs := by (first | (simp only [go_sem, ↓reduceIte, Nat.reduceEqDiff, Nat.reduceMul, Nat.reduceAdd, Nat.reduceSub, Nat.reduceLT, Nat.reduceGT, Nat.reduceLeDiff, Nat.reduceBEq, Int.reduceLT, Int.reduceLE, Int.reduceNe, Int.reduceEq, Int.reduceToNat, Int.reduceAdd, Int.reduceSub, Int.reduceMul, Int.reduceNeg, Nat.reducePow, Int.reducePow, Nat.reduceSubDiff, decide_true, decide_false, reduceCtorEq, or_self, or_false, false_or, or_true, true_or, if_false, gt_iff_lt, ge_iff_le, ne_eq, not_true_eq_false, not_false_eq_true, and_self, beq_self_eq_true, Bool.false_eq_true] <;> with_reducible rfl) | with_reducible rfl)) (h5 : notInt P ty2 = true := by (first | (simp only [go_sem, ↓reduceIte, Nat.reduceEqDiff, Nat.reduceMul, Nat.reduceAdd, Nat.reduceSub, Nat.reduceLT, Nat.reduceGT, Nat.reduceLeDiff, Nat.reduceBEq, Int.reduceLT, Int.reduceLE, Int.reduceNe, Int.reduceEq, Int.reduceToNat, Int.reduceAdd, Int.reduceSub, Int.reduceMul, Int.reduceNeg, Nat.reducePow, Int.reducePow, Nat.reduceSubDiff, decide_true, decide_false, reduceCtorEq, or_self, or_false, false_or, or_true, true_or, if_false, gt_iff_lt, ge_iff_le, ne_eq, not_true_eq_false, not_false_eq_true, and_self, beq_self_eq_true, Bool.false_eq_true] <;> with_reducible rfl) | with_reducible rfl))
    (h6 : (Nat.ble bs 1000 && (zs.length == sz) && Nat.blt 0 sz) = true := by rfl) (hk : S.length = k := by (first | (simp only [go_sem, ↓reduceIte, Nat.reduceEqDiff, Nat.reduceMul, Nat.reduceAdd, Nat.reduceSub, Nat.reduceLT, Nat.reduceGT, Nat.reduceLeDiff, Nat.reduceBEq, Int.reduceLT, Int.reduceLE, Int.reduceNe, Int.reduceEq, Int.reduceToNat, Int.reduceAdd, Int.reduceSub, Int.reduceMul, Int.reduceNeg, Nat.reducePow, Int.reducePow, Nat.reduceSubDiff, decide_true, decide_false, reduceCtorEq, or_self, or_false, false_or, or_true, true_or, if_false, gt_iff_lt, ge_iff_le, ne_eq, not_true_eq_false, not_false_eq_true, and_self, beq_self_eq_true, Bool.false_eq_true] <;> with_reducible rfl) | with_reducible rfl)) (hS : S.kill r ++ [⟨sz, true, rowT enc (l1 ++ l2)⟩] = S2 := by (first | (simp only [go_sem, ↓reduceIte, Nat.reduceEqDiff, Nat.reduceMul, Nat.reduceAdd, Nat.reduceSub, Nat.reduceLT, Nat.reduceGT, Nat.reduceLeDiff, Nat.reduceBEq, Int.reduceLT, Int.reduceLE, Int.reduceNe, Int.reduceEq, Int.reduceToNat, Int.reduceAdd, Int.reduceSub, Int.reduceMul, Int.reduceNeg, Nat.reducePow, Int.reducePow, Nat.reduceSubDiff, decide_true, decide_false, reduceCtorEq, or_self, or_false, false_or, or_true, true_or, if_false, gt_iff_lt, ge_iff_le, ne_eq, not_true_eq_false, not_false_eq_true, and_self, beq_self_eq_true, Bool.false_eq_true] <;> with_reducible rfl) | with_reducible rfl)) (hd : Nat.blt d n = true := by rfl)
    (hp : Dr.step P ops n pu fr S ⟨some d, .call ⟨.builtin .append, #[x, y], #[t, ty2]⟩, ty, pos, aft, gd⟩ (.ref k [] 0 (l1 ++ l2).length) S2 pu' := by first | exact Dr.step.txt | exact dr_chain)
    (hb : l1.length + l2.length ≤ 100000000 := by first | omega | (simp only [cat1_len, lit2_len, List.length_replicate, List.length_append, List.length_cons, List.length_nil, List.length_take, List.length_drop, List.length_map, List.length_set]; omega)) :
    wpOpsT P ops n pu (⟨some d, .call ⟨.builtin .append, #[x, y], #[t, ty2]⟩, ty, pos, aft, gd⟩ :: rest) K fr S := r_app l1 l2 hb h hw (hm ▸ hx) hat hy h1 h2 h3 h4 h5 h6 hk hS hd hp
/-- An append to a row of one literal byte. -/
theorem r_app1 {pu pu' : Dr} {gd : Option (Nat × Bool)} {x1 : Int} {l2 : List Int} {r k bs : Nat} {zs : List T} {e : TypeId} (h : wpOpsT P ops n pu' rest K (upd fr d (.ref k [] 0 (cat1 x1 l2).length)) S2)
    (hw : wantedT ops fr ⟨some d, .call ⟨.builtin .append, #[x, y], #[t, ty2]⟩, ty, pos, aft, gd⟩ = some true := by rfl)
    (hx : TL.ev fr x = .ref r [] 0 1 := by (first | (simp only [go_sem, ↓reduceIte, Nat.reduceEqDiff, Nat.reduceMul, Nat.reduceAdd, Nat.reduceSub, Nat.reduceLT, Nat.reduceGT, Nat.reduceLeDiff, Nat.reduceBEq, Int.reduceLT, Int.reduceLE, Int.reduceNe, Int.reduceEq, Int.reduceToNat, Int.reduceAdd, Int.reduceSub, Int.reduceMul, Int.reduceNeg, Nat.reducePow, Int.reducePow, Nat.reduceSubDiff, decide_true, decide_false, reduceCtorEq, or_self, or_false, false_or, or_true, true_or, if_false, gt_iff_lt, ge_iff_le, ne_eq, not_true_eq_false, not_false_eq_true, and_self, beq_self_eq_true, Bool.false_eq_true] <;> with_reducible rfl) | with_reducible rfl))
    (hat : S.at false r [] = some (1, [.v (.int .u8 x1)]) := by (first | (simp only [go_sem, ↓reduceIte, Nat.reduceEqDiff, Nat.reduceMul, Nat.reduceAdd, Nat.reduceSub, Nat.reduceLT, Nat.reduceGT, Nat.reduceLeDiff, Nat.reduceBEq, Int.reduceLT, Int.reduceLE, Int.reduceNe, Int.reduceEq, Int.reduceToNat, Int.reduceAdd, Int.reduceSub, Int.reduceMul, Int.reduceNeg, Nat.reducePow, Int.reducePow, Nat.reduceSubDiff, decide_true, decide_false, reduceCtorEq, or_self, or_false, false_or, or_true, true_or, if_false, gt_iff_lt, ge_iff_le, ne_eq, not_true_eq_false, not_false_eq_true, and_self, beq_self_eq_true, Bool.false_eq_true] <;> with_reducible rfl) | with_reducible rfl))
    (hy : srcT S 1 (TL.ev fr y) = some (l2.length, rowT u8C l2) := by (try simp only [go_sem, ↓reduceIte, Nat.reduceEqDiff, Nat.reduceMul, Nat.reduceAdd, Nat.reduceSub, Nat.reduceLT, Nat.reduceGT, Nat.reduceLeDiff, Nat.reduceBEq, Int.reduceLT, Int.reduceLE, Int.reduceNe, Int.reduceEq, Int.reduceToNat, Int.reduceAdd, Int.reduceSub, Int.reduceMul, Int.reduceNeg, Nat.reducePow, Int.reducePow, Nat.reduceSubDiff, decide_true, decide_false, reduceCtorEq, or_self, or_false, false_or, or_true, true_or, if_false, gt_iff_lt, ge_iff_le, ne_eq, not_true_eq_false, not_false_eq_true, and_self, beq_self_eq_true, Bool.false_eq_true]); first | exact src_str _ _ | exact src_sl _ | exact src_sl0 _ | exact src_row (by (first | (simp only [go_sem, ↓reduceIte, Nat.reduceEqDiff, Nat.reduceMul, Nat.reduceAdd, Nat.reduceSub, Nat.reduceLT, Nat.reduceGT, Nat.reduceLeDiff, Nat.reduceBEq, Int.reduceLT, Int.reduceLE, Int.reduceNe, Int.reduceEq, Int.reduceToNat, Int.reduceAdd, Int.reduceSub, Int.reduceMul, Int.reduceNeg, Nat.reducePow, Int.reducePow, Nat.reduceSubDiff, decide_true, decide_false, reduceCtorEq, or_self, or_false, false_or, or_true, true_or, if_false, gt_iff_lt, ge_iff_le, ne_eq, not_true_eq_false, not_false_eq_true, and_self, beq_self_eq_true, Bool.false_eq_true] <;> with_reducible rfl) | with_reducible rfl)) | exact src_one (by (first | (simp only [go_sem, ↓reduceIte, Nat.reduceEqDiff, Nat.reduceMul, Nat.reduceAdd, Nat.reduceSub, Nat.reduceLT, Nat.reduceGT, Nat.reduceLeDiff, Nat.reduceBEq, Int.reduceLT, Int.reduceLE, Int.reduceNe, Int.reduceEq, Int.reduceToNat, Int.reduceAdd, Int.reduceSub, Int.reduceMul, Int.reduceNeg, Nat.reducePow, Int.reducePow, Nat.reduceSubDiff, decide_true, decide_false, reduceCtorEq, or_self, or_false, false_or, or_true, true_or, if_false, gt_iff_lt, ge_iff_le, ne_eq, not_true_eq_false, not_false_eq_true, and_self, beq_self_eq_true, Bool.false_eq_true] <;> with_reducible rfl) | with_reducible rfl)) rfl rfl (by (first | (simp only [go_sem, ↓reduceIte, Nat.reduceEqDiff, Nat.reduceMul, Nat.reduceAdd, Nat.reduceSub, Nat.reduceLT, Nat.reduceGT, Nat.reduceLeDiff, Nat.reduceBEq, Int.reduceLT, Int.reduceLE, Int.reduceNe, Int.reduceEq, Int.reduceToNat, Int.reduceAdd, Int.reduceSub, Int.reduceMul, Int.reduceNeg, Nat.reducePow, Int.reducePow, Nat.reduceSubDiff, decide_true, decide_false, reduceCtorEq, or_self, or_false, false_or, or_true, true_or, if_false, gt_iff_lt, ge_iff_le, ne_eq, not_true_eq_false, not_false_eq_true, and_self, beq_self_eq_true, Bool.false_eq_true] <;> with_reducible rfl) | with_reducible rfl)) | (simp only [srcT, go_sem, ↓reduceIte, Nat.reduceEqDiff, Nat.reduceMul, Nat.reduceAdd, Nat.reduceSub, Nat.reduceLT, Nat.reduceGT, Nat.reduceLeDiff, Nat.reduceBEq, Int.reduceLT, Int.reduceLE, Int.reduceNe, Int.reduceEq, Int.reduceToNat, Int.reduceAdd, Int.reduceSub, Int.reduceMul, Int.reduceNeg, Nat.reducePow, Int.reducePow, Nat.reduceSubDiff, decide_true, decide_false, reduceCtorEq, or_self, or_false, false_or, or_true, true_or, if_false, gt_iff_lt, ge_iff_le, ne_eq, not_true_eq_false, not_false_eq_true, and_self, beq_self_eq_true, Bool.false_eq_true] <;> with_reducible rfl))
    (h1 : elemT P t = some e := by (first | (simp only [go_sem, ↓reduceIte, Nat.reduceEqDiff, Nat.reduceMul, Nat.reduceAdd, Nat.reduceSub, Nat.reduceLT, Nat.reduceGT, Nat.reduceLeDiff, Nat.reduceBEq, Int.reduceLT, Int.reduceLE, Int.reduceNe, Int.reduceEq, Int.reduceToNat, Int.reduceAdd, Int.reduceSub, Int.reduceMul, Int.reduceNeg, Nat.reducePow, Int.reducePow, Nat.reduceSubDiff, decide_true, decide_false, reduceCtorEq, or_self, or_false, false_or, or_true, true_or, if_false, gt_iff_lt, ge_iff_le, ne_eq, not_true_eq_false, not_false_eq_true, and_self, beq_self_eq_true, Bool.false_eq_true] <;> with_reducible rfl) | with_reducible rfl)) (h2 : szT P e = some 1 := by (first | (simp only [go_sem, ↓reduceIte, Nat.reduceEqDiff, Nat.reduceMul, Nat.reduceAdd, Nat.reduceSub, Nat.reduceLT, Nat.reduceGT, Nat.reduceLeDiff, Nat.reduceBEq, Int.reduceLT, Int.reduceLE, Int.reduceNe, Int.reduceEq, Int.reduceToNat, Int.reduceAdd, Int.reduceSub, Int.reduceMul, Int.reduceNeg, Nat.reducePow, Int.reducePow, Nat.reduceSubDiff, decide_true, decide_false, reduceCtorEq, or_self, or_false, false_or, or_true, true_or, if_false, gt_iff_lt, ge_iff_le, ne_eq, not_true_eq_false, not_false_eq_true, and_self, beq_self_eq_true, Bool.false_eq_true] <;> with_reducible rfl) | with_reducible rfl)) (h3 : bytesT P e = some bs := by (first | (simp only [go_sem, ↓reduceIte, Nat.reduceEqDiff, Nat.reduceMul, Nat.reduceAdd, Nat.reduceSub, Nat.reduceLT, Nat.reduceGT, Nat.reduceLeDiff, Nat.reduceBEq, Int.reduceLT, Int.reduceLE, Int.reduceNe, Int.reduceEq, Int.reduceToNat, Int.reduceAdd, Int.reduceSub, Int.reduceMul, Int.reduceNeg, Nat.reducePow, Int.reducePow, Nat.reduceSubDiff, decide_true, decide_false, reduceCtorEq, or_self, or_false, false_or, or_true, true_or, if_false, gt_iff_lt, ge_iff_le, ne_eq, not_true_eq_false, not_false_eq_true, and_self, beq_self_eq_true, Bool.false_eq_true] <;> with_reducible rfl) | with_reducible rfl)) (h4 : zeroT P e = some zs := by (first | (simp only [go_sem, ↓reduceIte, Nat.reduceEqDiff, Nat.reduceMul, Nat.reduceAdd, Nat.reduceSub, Nat.reduceLT, Nat.reduceGT, Nat.reduceLeDiff, Nat.reduceBEq, Int.reduceLT, Int.reduceLE, Int.reduceNe, Int.reduceEq, Int.reduceToNat, Int.reduceAdd, Int.reduceSub, Int.reduceMul, Int.reduceNeg, Nat.reducePow, Int.reducePow, Nat.reduceSubDiff, decide_true, decide_false, reduceCtorEq, or_self, or_false, false_or, or_true, true_or, if_false, gt_iff_lt, ge_iff_le, ne_eq, not_true_eq_false, not_false_eq_true, and_self, beq_self_eq_true, Bool.false_eq_true] <;> with_reducible rfl) | with_reducible rfl)) (h5 : notInt P ty2 = true := by (first | (simp only [go_sem, ↓reduceIte, Nat.reduceEqDiff, Nat.reduceMul, Nat.reduceAdd, Nat.reduceSub, Nat.reduceLT, Nat.reduceGT, Nat.reduceLeDiff, Nat.reduceBEq, Int.reduceLT, Int.reduceLE, Int.reduceNe, Int.reduceEq, Int.reduceToNat, Int.reduceAdd, Int.reduceSub, Int.reduceMul, Int.reduceNeg, Nat.reducePow, Int.reducePow, Nat.reduceSubDiff, decide_true, decide_false, reduceCtorEq, or_self, or_false, false_or, or_true, true_or, if_false, gt_iff_lt, ge_iff_le, ne_eq, not_true_eq_false, not_false_eq_true, and_self, beq_self_eq_true, Bool.false_eq_true] <;> with_reducible rfl) | with_reducible rfl))
    (h6 : (Nat.ble bs 1000 && (zs.length == 1) && Nat.blt 0 1) = true := by rfl) (hk : S.length = k := by (first | (simp only [go_sem, ↓reduceIte, Nat.reduceEqDiff, Nat.reduceMul, Nat.reduceAdd, Nat.reduceSub, Nat.reduceLT, Nat.reduceGT, Nat.reduceLeDiff, Nat.reduceBEq, Int.reduceLT, Int.reduceLE, Int.reduceNe, Int.reduceEq, Int.reduceToNat, Int.reduceAdd, Int.reduceSub, Int.reduceMul, Int.reduceNeg, Nat.reducePow, Int.reducePow, Nat.reduceSubDiff, decide_true, decide_false, reduceCtorEq, or_self, or_false, false_or, or_true, true_or, if_false, gt_iff_lt, ge_iff_le, ne_eq, not_true_eq_false, not_false_eq_true, and_self, beq_self_eq_true, Bool.false_eq_true] <;> with_reducible rfl) | with_reducible rfl)) (hS : S.kill r ++ [⟨1, true, rowT u8C (cat1 x1 l2)⟩] = S2 := by (first | (simp only [go_sem, ↓reduceIte, Nat.reduceEqDiff, Nat.reduceMul, Nat.reduceAdd, Nat.reduceSub, Nat.reduceLT, Nat.reduceGT, Nat.reduceLeDiff, Nat.reduceBEq, Int.reduceLT, Int.reduceLE, Int.reduceNe, Int.reduceEq, Int.reduceToNat, Int.reduceAdd, Int.reduceSub, Int.reduceMul, Int.reduceNeg, Nat.reducePow, Int.reducePow, Nat.reduceSubDiff, decide_true, decide_false, reduceCtorEq, or_self, or_false, false_or, or_true, true_or, if_false, gt_iff_lt, ge_iff_le, ne_eq, not_true_eq_false, not_false_eq_true, and_self, beq_self_eq_true, Bool.false_eq_true] <;> with_reducible rfl) | with_reducible rfl)) (hd : Nat.blt d n = true := by rfl)
    (hp : Dr.step P ops n pu fr S ⟨some d, .call ⟨.builtin .append, #[x, y], #[t, ty2]⟩, ty, pos, aft, gd⟩ (.ref k [] 0 (cat1 x1 l2).length) S2 pu' := by first | exact Dr.step.txt | exact dr_chain)
    (hb : 1 + l2.length ≤ 100000000 := by first | omega | (simp only [cat1_len, lit2_len, List.length_replicate, List.length_append, List.length_cons, List.length_nil, List.length_take, List.length_drop, List.length_map, List.length_set]; omega)) :
    wpOpsT P ops n pu (⟨some d, .call ⟨.builtin .append, #[x, y], #[t, ty2]⟩, ty, pos, aft, gd⟩ :: rest) K fr S := r_app (enc := u8C) (sz := 1) [x1] l2 hb h hw hx hat hy h1 h2 h3 h4 h5 h6 hk hS hd hp
/-- An append to nil. -/
theorem r_appn {pu pu' : Dr} {gd : Option (Nat × Bool)} [RowE enc sz] {l2 : List α} {k bs : Nat} {zs : List T} {e : TypeId} (h : wpOpsT P ops n pu' rest K (upd fr d (.ref k [] 0 l2.length)) S2)
    (hw : wantedT ops fr ⟨some d, .call ⟨.builtin .append, #[x, y], #[t, ty2]⟩, ty, pos, aft, gd⟩ = some true := by rfl)
    (hx : TL.ev fr x = .v (.slice none 0 0) := by (first | (simp only [go_sem, ↓reduceIte, Nat.reduceEqDiff, Nat.reduceMul, Nat.reduceAdd, Nat.reduceSub, Nat.reduceLT, Nat.reduceGT, Nat.reduceLeDiff, Nat.reduceBEq, Int.reduceLT, Int.reduceLE, Int.reduceNe, Int.reduceEq, Int.reduceToNat, Int.reduceAdd, Int.reduceSub, Int.reduceMul, Int.reduceNeg, Nat.reducePow, Int.reducePow, Nat.reduceSubDiff, decide_true, decide_false, reduceCtorEq, or_self, or_false, false_or, or_true, true_or, if_false, gt_iff_lt, ge_iff_le, ne_eq, not_true_eq_false, not_false_eq_true, and_self, beq_self_eq_true, Bool.false_eq_true] <;> with_reducible rfl) | with_reducible rfl))
    (h1 : elemT P t = some e := by (first | (simp only [go_sem, ↓reduceIte, Nat.reduceEqDiff, Nat.reduceMul, Nat.reduceAdd, Nat.reduceSub, Nat.reduceLT, Nat.reduceGT, Nat.reduceLeDiff, Nat.reduceBEq, Int.reduceLT, Int.reduceLE, Int.reduceNe, Int.reduceEq, Int.reduceToNat, Int.reduceAdd, Int.reduceSub, Int.reduceMul, Int.reduceNeg, Nat.reducePow, Int.reducePow, Nat.reduceSubDiff, decide_true, decide_false, reduceCtorEq, or_self, or_false, false_or, or_true, true_or, if_false, gt_iff_lt, ge_iff_le, ne_eq, not_true_eq_false, not_false_eq_true, and_self, beq_self_eq_true, Bool.false_eq_true] <;> with_reducible rfl) | with_reducible rfl)) (h2 : szT P e = some sz := by (first | (simp only [go_sem, ↓reduceIte, Nat.reduceEqDiff, Nat.reduceMul, Nat.reduceAdd, Nat.reduceSub, Nat.reduceLT, Nat.reduceGT, Nat.reduceLeDiff, Nat.reduceBEq, Int.reduceLT, Int.reduceLE, Int.reduceNe, Int.reduceEq, Int.reduceToNat, Int.reduceAdd, Int.reduceSub, Int.reduceMul, Int.reduceNeg, Nat.reducePow, Int.reducePow, Nat.reduceSubDiff, decide_true, decide_false, reduceCtorEq, or_self, or_false, false_or, or_true, true_or, if_false, gt_iff_lt, ge_iff_le, ne_eq, not_true_eq_false, not_false_eq_true, and_self, beq_self_eq_true, Bool.false_eq_true] <;> with_reducible rfl) | with_reducible rfl)) (h3 : bytesT P e = some bs := by (first | (simp only [go_sem, ↓reduceIte, Nat.reduceEqDiff, Nat.reduceMul, Nat.reduceAdd, Nat.reduceSub, Nat.reduceLT, Nat.reduceGT, Nat.reduceLeDiff, Nat.reduceBEq, Int.reduceLT, Int.reduceLE, Int.reduceNe, Int.reduceEq, Int.reduceToNat, Int.reduceAdd, Int.reduceSub, Int.reduceMul, Int.reduceNeg, Nat.reducePow, Int.reducePow, Nat.reduceSubDiff, decide_true, decide_false, reduceCtorEq, or_self, or_false, false_or, or_true, true_or, if_false, gt_iff_lt, ge_iff_le, ne_eq, not_true_eq_false, not_false_eq_true, and_self, beq_self_eq_true, Bool.false_eq_true] <;> with_reducible rfl) | with_reducible rfl)) (h4 : zeroT P e = some zs := by (first | (simp only [go_sem, ↓reduceIte, Nat.reduceEqDiff, Nat.reduceMul, Nat.reduceAdd, Nat.reduceSub, Nat.reduceLT, Nat.reduceGT, Nat.reduceLeDiff, Nat.reduceBEq, Int.reduceLT, Int.reduceLE, Int.reduceNe, Int.reduceEq, Int.reduceToNat, Int.reduceAdd, Int.reduceSub, Int.reduceMul, Int.reduceNeg, Nat.reducePow, Int.reducePow, Nat.reduceSubDiff, decide_true, decide_false, reduceCtorEq, or_self, or_false, false_or, or_true, true_or, if_false, gt_iff_lt, ge_iff_le, ne_eq, not_true_eq_false, not_false_eq_true, and_self, beq_self_eq_true, Bool.false_eq_true] <;> with_reducible rfl) | with_reducible rfl)) (h5 : notInt P ty2 = true := by (first | (simp only [go_sem, ↓reduceIte, Nat.reduceEqDiff, Nat.reduceMul, Nat.reduceAdd, Nat.reduceSub, Nat.reduceLT, Nat.reduceGT, Nat.reduceLeDiff, Nat.reduceBEq, Int.reduceLT, Int.reduceLE, Int.reduceNe, Int.reduceEq, Int.reduceToNat, Int.reduceAdd, Int.reduceSub, Int.reduceMul, Int.reduceNeg, Nat.reducePow, Int.reducePow, Nat.reduceSubDiff, decide_true, decide_false, reduceCtorEq, or_self, or_false, false_or, or_true, true_or, if_false, gt_iff_lt, ge_iff_le, ne_eq, not_true_eq_false, not_false_eq_true, and_self, beq_self_eq_true, Bool.false_eq_true] <;> with_reducible rfl) | with_reducible rfl))
    (hy : srcT S sz (TL.ev fr y) = some (l2.length, rowT enc l2) := by (try simp only [go_sem, ↓reduceIte, Nat.reduceEqDiff, Nat.reduceMul, Nat.reduceAdd, Nat.reduceSub, Nat.reduceLT, Nat.reduceGT, Nat.reduceLeDiff, Nat.reduceBEq, Int.reduceLT, Int.reduceLE, Int.reduceNe, Int.reduceEq, Int.reduceToNat, Int.reduceAdd, Int.reduceSub, Int.reduceMul, Int.reduceNeg, Nat.reducePow, Int.reducePow, Nat.reduceSubDiff, decide_true, decide_false, reduceCtorEq, or_self, or_false, false_or, or_true, true_or, if_false, gt_iff_lt, ge_iff_le, ne_eq, not_true_eq_false, not_false_eq_true, and_self, beq_self_eq_true, Bool.false_eq_true]); first | exact src_str _ _ | exact src_sl _ | exact src_sl0 _ | exact src_row (by (first | (simp only [go_sem, ↓reduceIte, Nat.reduceEqDiff, Nat.reduceMul, Nat.reduceAdd, Nat.reduceSub, Nat.reduceLT, Nat.reduceGT, Nat.reduceLeDiff, Nat.reduceBEq, Int.reduceLT, Int.reduceLE, Int.reduceNe, Int.reduceEq, Int.reduceToNat, Int.reduceAdd, Int.reduceSub, Int.reduceMul, Int.reduceNeg, Nat.reducePow, Int.reducePow, Nat.reduceSubDiff, decide_true, decide_false, reduceCtorEq, or_self, or_false, false_or, or_true, true_or, if_false, gt_iff_lt, ge_iff_le, ne_eq, not_true_eq_false, not_false_eq_true, and_self, beq_self_eq_true, Bool.false_eq_true] <;> with_reducible rfl) | with_reducible rfl)) | exact src_one (by (first | (simp only [go_sem, ↓reduceIte, Nat.reduceEqDiff, Nat.reduceMul, Nat.reduceAdd, Nat.reduceSub, Nat.reduceLT, Nat.reduceGT, Nat.reduceLeDiff, Nat.reduceBEq, Int.reduceLT, Int.reduceLE, Int.reduceNe, Int.reduceEq, Int.reduceToNat, Int.reduceAdd, Int.reduceSub, Int.reduceMul, Int.reduceNeg, Nat.reducePow, Int.reducePow, Nat.reduceSubDiff, decide_true, decide_false, reduceCtorEq, or_self, or_false, false_or, or_true, true_or, if_false, gt_iff_lt, ge_iff_le, ne_eq, not_true_eq_false, not_false_eq_true, and_self, beq_self_eq_true, Bool.false_eq_true] <;> with_reducible rfl) | with_reducible rfl)) rfl rfl (by (first | (simp only [go_sem, ↓reduceIte, Nat.reduceEqDiff, Nat.reduceMul, Nat.reduceAdd, Nat.reduceSub, Nat.reduceLT, Nat.reduceGT, Nat.reduceLeDiff, Nat.reduceBEq, Int.reduceLT, Int.reduceLE, Int.reduceNe, Int.reduceEq, Int.reduceToNat, Int.reduceAdd, Int.reduceSub, Int.reduceMul, Int.reduceNeg, Nat.reducePow, Int.reducePow, Nat.reduceSubDiff, decide_true, decide_false, reduceCtorEq, or_self, or_false, false_or, or_true, true_or, if_false, gt_iff_lt, ge_iff_le, ne_eq, not_true_eq_false, not_false_eq_true, and_self, beq_self_eq_true, Bool.false_eq_true] <;> with_reducible rfl) | with_reducible rfl)) | (simp only [srcT, go_sem, ↓reduceIte, Nat.reduceEqDiff, Nat.reduceMul, Nat.reduceAdd, Nat.reduceSub, Nat.reduceLT, Nat.reduceGT, Nat.reduceLeDiff, Nat.reduceBEq, Int.reduceLT, Int.reduceLE, Int.reduceNe, Int.reduceEq, Int.reduceToNat, Int.reduceAdd, Int.reduceSub, Int.reduceMul, Int.reduceNeg, Nat.reducePow, Int.reducePow, Nat.reduceSubDiff, decide_true, decide_false, reduceCtorEq, or_self, or_false, false_or, or_true, true_or, if_false, gt_iff_lt, ge_iff_le, ne_eq, not_true_eq_false, not_false_eq_true, and_self, beq_self_eq_true, Bool.false_eq_true] <;> with_reducible rfl))
    (h6 : (Nat.ble bs 1000 && (zs.length == sz) && Nat.blt 0 sz) = true := by rfl) (hk : S.length = k := by (first | (simp only [go_sem, ↓reduceIte, Nat.reduceEqDiff, Nat.reduceMul, Nat.reduceAdd, Nat.reduceSub, Nat.reduceLT, Nat.reduceGT, Nat.reduceLeDiff, Nat.reduceBEq, Int.reduceLT, Int.reduceLE, Int.reduceNe, Int.reduceEq, Int.reduceToNat, Int.reduceAdd, Int.reduceSub, Int.reduceMul, Int.reduceNeg, Nat.reducePow, Int.reducePow, Nat.reduceSubDiff, decide_true, decide_false, reduceCtorEq, or_self, or_false, false_or, or_true, true_or, if_false, gt_iff_lt, ge_iff_le, ne_eq, not_true_eq_false, not_false_eq_true, and_self, beq_self_eq_true, Bool.false_eq_true] <;> with_reducible rfl) | with_reducible rfl)) (hS : S ++ [⟨sz, true, rowT enc l2⟩] = S2 := by (first | (simp only [go_sem, ↓reduceIte, Nat.reduceEqDiff, Nat.reduceMul, Nat.reduceAdd, Nat.reduceSub, Nat.reduceLT, Nat.reduceGT, Nat.reduceLeDiff, Nat.reduceBEq, Int.reduceLT, Int.reduceLE, Int.reduceNe, Int.reduceEq, Int.reduceToNat, Int.reduceAdd, Int.reduceSub, Int.reduceMul, Int.reduceNeg, Nat.reducePow, Int.reducePow, Nat.reduceSubDiff, decide_true, decide_false, reduceCtorEq, or_self, or_false, false_or, or_true, true_or, if_false, gt_iff_lt, ge_iff_le, ne_eq, not_true_eq_false, not_false_eq_true, and_self, beq_self_eq_true, Bool.false_eq_true] <;> with_reducible rfl) | with_reducible rfl)) (hd : Nat.blt d n = true := by rfl)
    (hp : Dr.step P ops n pu fr S ⟨some d, .call ⟨.builtin .append, #[x, y], #[t, ty2]⟩, ty, pos, aft, gd⟩ (.ref k [] 0 l2.length) S2 pu' := by first | exact Dr.step.txt | exact dr_chain)
    (hb : 0 < l2.length ∧ l2.length ≤ 100000000 := by first | omega | (simp only [cat1_len, lit2_len, List.length_replicate, List.length_append, List.length_cons, List.length_nil, List.length_take, List.length_drop, List.length_map, List.length_set]; omega)) :
    wpOpsT P ops n pu (⟨some d, .call ⟨.builtin .append, #[x, y], #[t, ty2]⟩, ty, pos, aft, gd⟩ :: rest) K fr S := by
  simp only [Bool.and_eq_true, beq_iff_eq, Nat.blt_eq] at h6
  have hbs := Nat.le_of_ble_eq_true h6.1.1
  have hm : l2.length * bs ≤ 100000000 * 1000 := Nat.mul_le_mul hb.2 hbs
  refine r_op (opT_do hw (by simpa [okDst, Nat.blt_eq] using hd) rfl ?_) hp h
  show appendX P S t ty2 (TL.ev fr x) (TL.ev fr y) = _
  rw [hx, appX_v]
  simp only [appendT, h1, h2, h3, h4, h5, hy]
  rw [if_pos ⟨trivial, h6.2, h6.1.2⟩]
  simp only [if_neg (show ¬ l2.length = 0 by omega)]
  rw [if_pos ⟨by omega, by omega⟩, hk, hS]

/-- A row written out. -/
theorem r_lit {pu pu' : Dr} {gd : Option (Nat × Bool)} {m k : Nat} {ps : List (Nat × Operand)} {S' : Store} (l : List α) (h : wpOpsT P ops n pu' rest K (upd fr d (.ref k [] 0 l.length)) S2)
    (hw : wantedT ops fr ⟨some d, .buildSlice t m ps.toArray, ty, pos, aft, gd⟩ = some true := by rfl) (hm : l.length = m := by rfl) (hs : stepT P S fr ⟨some d, .buildSlice t m ps.toArray, ty, pos, aft, gd⟩ = some (.ref k [] 0 m, S') := by simp (disch := omega) only [go_sem, ↓reduceIte, Nat.reduceEqDiff, Nat.reduceMul, Nat.reduceAdd, Nat.reduceSub, Nat.reduceLT, Nat.reduceGT, Nat.reduceLeDiff, Nat.reduceBEq, Int.reduceLT, Int.reduceLE, Int.reduceNe, Int.reduceEq, Int.reduceToNat, Int.reduceAdd, Int.reduceSub, Int.reduceMul, Int.reduceNeg, Nat.reducePow, Int.reducePow, Nat.reduceSubDiff, decide_true, decide_false, reduceCtorEq, or_self, or_false, false_or, or_true, true_or, if_false, gt_iff_lt, ge_iff_le, ne_eq, not_true_eq_false, not_false_eq_true, and_self, beq_self_eq_true, Bool.false_eq_true]; with_reducible rfl) (hl : S ++ [⟨1, true, rowT enc l⟩] = S' := by rfl)
    (hS : S ++ [⟨1, true, rowT enc l⟩] = S2 := by (first | (simp only [go_sem, ↓reduceIte, Nat.reduceEqDiff, Nat.reduceMul, Nat.reduceAdd, Nat.reduceSub, Nat.reduceLT, Nat.reduceGT, Nat.reduceLeDiff, Nat.reduceBEq, Int.reduceLT, Int.reduceLE, Int.reduceNe, Int.reduceEq, Int.reduceToNat, Int.reduceAdd, Int.reduceSub, Int.reduceMul, Int.reduceNeg, Nat.reducePow, Int.reducePow, Nat.reduceSubDiff, decide_true, decide_false, reduceCtorEq, or_self, or_false, false_or, or_true, true_or, if_false, gt_iff_lt, ge_iff_le, ne_eq, not_true_eq_false, not_false_eq_true, and_self, beq_self_eq_true, Bool.false_eq_true] <;> with_reducible rfl) | with_reducible rfl))
    (hd : Nat.blt d n = true := by rfl)
    (hp : Dr.step P ops n pu fr S ⟨some d, .buildSlice t m ps.toArray, ty, pos, aft, gd⟩ (.ref k [] 0 l.length) S2 pu' := by first | exact Dr.step.txt | exact dr_chain) :
    wpOpsT P ops n pu (⟨some d, .buildSlice t m ps.toArray, ty, pos, aft, gd⟩ :: rest) K fr S :=
  r_op (opT_do hw (by simpa [okDst, Nat.blt_eq] using hd) rfl (by rw [hs, hm, ← hS, hl])) hp h
end

def Env.start (w : World) (K : Nat → Nat → Prop) : Env := { w := w, S := [], φ := fun _ _ => 0, B := w.heap.size, N := w.heap.size, K := K }
theorem start_at {w : World} {K : Nat → Nat → Prop} {any : Bool} {r : Nat} {p : List Nat} {x : Nat × List T} : (Env.start w K).S.at any r p ≠ some x := by
  intro h; have := Store.at_lt h; simp [Env.start] at this
theorem start_inv (w : World) (K : Nat → Nat → Prop) (hG : Gl w w.heap.size) : Inv (Env.start w K) w :=
  ⟨Below.refl _ _, ⟨Nat.le_refl _, hG⟩, Nat.le_refl _, fun _ _ _ _ h => absurd h start_at, fun _ _ _ _ _ _ h => absurd h start_at, fun _ _ _ h => absurd h start_at⟩

structure Hid (q : Prop) : Prop where
  out : q

/-- The straight line, as far as it goes by itself. -/
theorem run {p q : Prop} (h : q) (w : Hid q → p := by
    intro h
    repeat (first
      | refine r_seq ?_ | refine r_region ?_ | refine r_gd ?_ | refine r_gcall ?_ | refine r_lit (enc := i64C) [_, _] ?_ | refine r_lit (enc := i64C) [_, _, _] ?_ | refine r_lit (enc := i64C) [_, _, _, _] ?_ | refine r_lit (enc := i64C) [_, _, _, _, _] ?_ | refine r_lit (enc := u8C) (lit2 _ _) ?_ | refine r_lit (enc := u8C) [_, _, _, _] ?_ | refine r_lit (enc := strC) [_, _] ?_ | refine r_do ?_ | refine r_do0 ?_ | refine r_callc ?_ | refine r_appa ?_ | refine r_app1 ?_ | refine r_appn (enc := strC) ?_ | refine r_appn (enc := i64C) ?_ | refine r_appn (enc := u8C) ?_ | refine r_ops ?_ | refine x_seq_n ?_ | refine r_block ?_ | refine r_skip ?_ | refine r_exit ?_ | refine r_ret ?_
      | refine x_seq_r ?_ | refine x_seq_e ?_ | refine x_block_n ?_ | refine x_block_r ?_ | refine x_block_e ?_ | refine x_block_o rfl ?_ | refine r_draw ?_ | refine r_not ?_ | refine r_cT ?_ | refine r_cF ?_ | refine r_ct ?_ | refine r_cf ?_)
    exact h.out) : p := w ⟨h⟩

end Go.TL
