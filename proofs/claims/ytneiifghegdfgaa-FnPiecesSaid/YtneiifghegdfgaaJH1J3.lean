/- Texts joined. No conditions but those that are written. -/
import Derived.Test.YtneiifghegdfgaaA1
import Derived.Test.YtneiifghegdfgaaN1
import Derived.Test.YtneiifghegdfgaaTGet
import Derived.Test.YtneiifghegdfgaaTLm
import Derived.Test.YtneiifghegdfgaaL2
/- Bytes as digits of sixteen. No conditions but those that are written. -/
namespace Go.TL
set_option linter.unusedSimpArgs false
open Go.Proofs Go.RowKit
attribute [local irreducible] wpOpsT wpT EndT Ex.seq Ex.block W

def hexD : ByteArray := ⟨#[48, 49, 50, 51, 52, 53, 54, 55, 56, 57, 97, 98, 99, 100, 101, 102]⟩
def dig16 (x : Int) : Int := nth (strL hexD) x
@[go_sem] theorem dig16_eq (x : Int) : nth (strL ⟨#[48, 49, 50, 51, 52, 53, 54, 55, 56, 57, 97, 98, 99, 100, 101, 102]⟩) x = dig16 x := rfl
@[go_sem] theorem hexD_size : (⟨#[48, 49, 50, 51, 52, 53, 54, 55, 56, 57, 97, 98, 99, 100, 101, 102]⟩ : ByteArray).size = 16 := rfl
theorem dig16_b (x : Int) : 0 ≤ dig16 x ∧ dig16 x < 256 := by
  unfold dig16 nth
  rcases Nat.lt_or_ge x.toNat 16 with h | h
  · have : ∀ i : Fin 16, 0 ≤ (strL hexD).getD i.val default ∧ (strL hexD).getD i.val default < 256 := by decide +kernel
    exact this ⟨x.toNat, h⟩
  · rw [List.getD_eq_getElem?_getD, List.getElem?_eq_none (by rw [strL_length]; exact h)]; decide
def hexL (l : List Int) : List Int := l.flatMap fun x => [dig16 (x / 16), dig16 (x % 16)]
theorem hexL_take {l : List Int} {i : Nat} (h : i < l.length) : hexL (l.take i) ++ lit2 (dig16 (nth l i / 16)) (dig16 (nth l i % 16)) = hexL (l.take (i + 1)) := by
  rw [take_nth h]; simp [hexL, lit2]
theorem hexL_len : ∀ l : List Int, (hexL l).length = 2 * l.length
  | [] => rfl
  | x :: l => by
    have := hexL_len l
    simp only [hexL, List.flatMap_cons, List.length_append, List.length_cons, List.length_nil] at this ⊢
    omega
def bytesP (l : List Int) : Prop := ∀ x ∈ l, 0 ≤ x ∧ x < 256
theorem bytesP_str (s : ByteArray) : bytesP (strL s) := by
  intro x hx
  obtain ⟨b, _, rfl⟩ := List.mem_map.1 hx
  have := b.toNat_lt
  omega
theorem bytesP_nth {l : List Int} (h : bytesP l) (x : Int) : 0 ≤ nth l x ∧ nth l x < 256 := by
  rcases Nat.lt_or_ge x.toNat l.length with hl | hl
  · have := nth_mem (l := l) (i := x.toNat) hl
    rw [nth_toNat] at this
    exact h _ this
  · unfold nth
    rw [List.getD_eq_getElem?_getD, List.getElem?_eq_none hl]; decide
/-- Bytes in digits; too many: none. -/
def hexB (l : List Int) : ByteArray := if (l.length : Int) > 4000 then ⟨#[]⟩ else strOfT (hexL l)
theorem and64_15 {x : Int} (h : 0 ≤ x ∧ x < 9223372036854775808) : and64 x 15 = x % 16 := and64_mask 4 (by decide) x h.1 (by omega) 15 rfl
attribute [local go_sem] and64_15

theorem shr_u8 {x : Int} (h : 0 ≤ x ∧ x < 256) : IntKind.u8.wrap (x.tdiv 16) = x / 16 := by
  rw [Int.tdiv_eq_ediv_of_nonneg h.1, IntKind.wrap_u8]; omega
theorem b_quo8 (P : Program) (t : TypeId) (xo yo : Operand) (a b : Int) (h : b ≠ 0) : binT P .quo t xo yo (.v (.int .u8 a)) (.v (.int .u8 b)) = some (.v (.int .u8 (IntKind.u8.wrap (a.tdiv b)))) := by simp [binT, toV, eqGuard, binOp, Op.intDiv, ofV, h]
theorem b_rem8 (P : Program) (t : TypeId) (xo yo : Operand) (a b : Int) (h : b ≠ 0) : binT P .rem t xo yo (.v (.int .u8 a)) (.v (.int .u8 b)) = some (.v (.int .u8 (a.tmod b))) := by simp [binT, toV, eqGuard, binOp, Op.intDiv, ofV, h]
attribute [go_sem] b_quo8 b_rem8

end Go.TL

/- A number that is read from bytes, both sides. No conditions but those that are written. -/
namespace Go.TL
set_option linter.unusedSimpArgs false
open Go.Proofs Go.RowKit
attribute [local irreducible] wpOpsT wpT EndT Ex.seq Ex.block W

theorem or_join (k : Nat) {x y : Int} (hk : k ≤ 56) (hx : 0 ≤ x ∧ x < 128) (hy : 0 ≤ y ∧ y < 2 ^ k) : or64 y (x * 2 ^ k) = y + x * 2 ^ k := by
  obtain ⟨a, rfl⟩ := Int.eq_ofNat_of_zero_le hx.1
  obtain ⟨b, rfl⟩ := Int.eq_ofNat_of_zero_le hy.1
  have h2 : b < 2 ^ k := Int.ofNat_lt.1 (by rw [Int.natCast_pow]; exact hy.2)
  have hm : 2 ^ k ≤ 2 ^ 56 := Nat.pow_le_pow_right (by decide) hk
  rw [show (2 : Int) ^ k = ((2 ^ k : Nat) : Int) from (Int.natCast_pow 2 k).symm, ← Int.natCast_mul]
  have h3 := Nat.two_pow_add_eq_or_of_lt h2 a
  have h4 : a * 2 ^ k ≤ 127 * 2 ^ 56 := Nat.mul_le_mul (by omega) hm
  rw [Nat.mul_comm] at h3
  generalize a * 2 ^ k = A at *
  generalize 2 ^ k = K at *
  rw [or64_nat _ _ (by omega) (by omega), Nat.or_comm, ← h3, Int.natCast_add, Int.add_comm]
theorem pow128 (i : Nat) : (2 : Int) ^ (7 * (i : Int)).toNat = 128 ^ i := by
  rw [show (7 * (i : Int)).toNat = 7 * i by omega, Int.pow_mul]; rfl
theorem pow128_pos (i : Nat) : (0 : Int) < 128 ^ i := Int.pow_pos (by decide)
theorem pow128_le {i : Nat} (h : i ≤ 8) : (128 : Int) ^ i ≤ 72057594037927936 := by
  have := Nat.pow_le_pow_right (n := 128) (by decide) h
  have h2 : ((128 ^ i : Nat) : Int) ≤ ((128 ^ 8 : Nat) : Int) := Int.ofNat_le.2 this
  rw [Int.natCast_pow] at h2
  exact h2
theorem mul128 {x : Int} {i : Nat} (_h : i ≤ 8) (hx : 0 ≤ x ∧ x < 128) : 0 ≤ x * 128 ^ i ∧ x * 128 ^ i ≤ 127 * 128 ^ i :=
  ⟨Int.mul_nonneg hx.1 (Int.le_of_lt (pow128_pos i)), Int.mul_le_mul_of_nonneg_right (by omega) (Int.le_of_lt (pow128_pos i))⟩
theorem or7 {i : Nat} {x y : Int} (h : i ≤ 8 ∧ (0 ≤ x ∧ x < 128) ∧ 0 ≤ y ∧ y < 128 ^ i) : or64 y (wrap64 (x * 2 ^ min (7 * (i : Int)).toNat 64)) = y + x * 128 ^ i := by
  obtain ⟨h1, h2, h3⟩ := h
  have := mul128 h1 h2
  have := pow128_le h1
  rw [show min (7 * (i : Int)).toNat 64 = (7 * (i : Int)).toNat by omega, pow128, wrap64_in (by omega)]
  have := or_join (7 * i) (x := x) (y := y) (by omega) h2 (by rw [Int.pow_mul]; exact h3)
  rw [Int.pow_mul] at this
  exact this

/-- What is read of a number: it, and where the bytes go on; i bytes are read, k may still be. -/
def getL (b : List Int) (a : Nat) : Nat → Nat → Int → Option (Int × Int)
  | 0, _, _ => none
  | k + 1, i, x => if a + i < b.length then
      (if 127 < nth b ((a : Int) + i) then getL b a k (i + 1) (x + nth b ((a : Int) + i) % 128 * 128 ^ i)
       else if 0 < i ∧ nth b ((a : Int) + i) = 0 then none else some (x + nth b ((a : Int) + i) % 128 * 128 ^ i, (a : Int) + i + 1))
    else none
def getN (b : List Int) (at' : Int) : Option (Int × Int) := if at' < 0 then none else getL b at'.toNat 9 0 0
def gnX (b : List Int) (a : Int) : Int := ((getN b a).getD (0, 0)).1
def gnA (b : List Int) (a : Int) : Int := ((getN b a).getD (0, 0)).2
def gnO (b : List Int) (a : Int) : Prop := (getN b a).isSome = true
instance (b : List Int) (a : Int) : Decidable (gnO b a) := inferInstanceAs (Decidable (_ = true))

theorem getL_b {b : List Int} (hb : bytesP b) {a : Nat} : ∀ (k i : Nat) (x : Int), k + i = 9 → 0 ≤ x ∧ x < 128 ^ i → ∀ y z, getL b a k i x = some (y, z) → (0 ≤ y ∧ y < 9223372036854775808) ∧ (a : Int) < z ∧ z ≤ b.length
  | 0, _, _, _, _, _, _, h => by simp [getL] at h
  | k + 1, i, x, hk, hx, y, z, h => by
    have hn := bytesP_nth hb ((a : Int) + i)
    have hm := mul128 (i := i) (x := nth b ((a : Int) + i) % 128) (by omega) (by omega)
    have hp := pow128_le (i := i) (by omega)
    unfold getL at h
    split at h
    · split at h
      · refine getL_b hb k (i + 1) _ (by omega) ⟨by omega, ?_⟩ y z h
        rw [Int.pow_succ]; omega
      · split at h
        · simp at h
        · simp only [Option.some.injEq, Prod.mk.injEq] at h
          omega
    · simp at h
theorem gn_b {b : List Int} (hb : bytesP b) {a : Int} (h : gnO b a) : (0 ≤ gnX b a ∧ gnX b a < 9223372036854775808) ∧ 0 ≤ a ∧ a < gnA b a ∧ gnA b a ≤ b.length := by
  unfold gnX gnA
  unfold gnO at h
  cases he : getN b a with
  | none => rw [he] at h; simp at h
  | some p =>
    unfold getN at he
    split at he
    · simp at he
    · have := getL_b hb 9 0 0 rfl (by decide) p.1 p.2 he
      simp only [Option.getD_some]
      omega
theorem gn_none {b : List Int} {a : Int} (h : getN b a = none) : gnX b a = 0 ∧ gnA b a = 0 ∧ ¬ gnO b a := by simp [gnX, gnA, gnO, h]
theorem gn_some {b : List Int} {a x y : Int} (h : getN b a = some (x, y)) : gnX b a = x ∧ gnA b a = y ∧ gnO b a := by simp [gnX, gnA, gnO, h]
theorem gn_0 {b : List Int} {a : Int} (h : ¬ gnO b a) : gnX b a = 0 ∧ gnA b a = 0 := by
  cases he : getN b a with
  | none => exact ⟨(gn_none he).1, (gn_none he).2.1⟩
  | some p => exact absurd (gn_some (x := p.1) (y := p.2) he).2.2 h

attribute [local go_sem] or7

set_option maxHeartbeats 4000000 in
theorem impl_GetNum (k : Nat) (b : List Int) (a : Int) (hpre : bytesP b ∧ b.length ≤ 140737488355328 ∧ a ≤ 4611686018427387904) : CallsT Try.prog [] F.impl_GetNum [.sl false k b.length 1 (rowT u8C b), .v (.int .i64 a)] (.tup [.v (.int .i64 (gnX b a)), .v (.int .i64 (gnA b a)), .v (.bool (decide (gnO b a)))]) [] := by
  refine fnT C.impl_GetNum ?_
  obtain ⟨hb, hl, ha⟩ := hpre
  refine run ?_
  refine r_ifd (fun h => ?_) (fun h => ?_)
  · have hg := gn_none (b := b) (a := a) (if_pos h)
    rw [hg.1, hg.2.1, decide_eq_false hg.2.2]
    refine run ?_
    exact r_end [] []
  obtain ⟨a, rfl⟩ := Int.eq_ofNat_of_zero_le (a := a) (by omega)
  have hg0 : getN b (a : Nat) = getL b a 9 0 0 := by rw [getN, if_neg h, Int.toNat_natCast]
  refine run ?_
  refine r_loop_of (σ := Int × Nat) (fun s => [(0, .sl false k b.length 1 (rowT u8C b)), (1, .v (.int .i64 ((a : Nat)))), (7, .v (.int .i64 s.1)), (8, .v (.int .i64 ((s.2 : Nat))))]) (fun _ => []) (fun s => (0 ≤ s.1 ∧ s.1 < 128 ^ s.2) ∧ s.2 ≤ 9 ∧ getL b a (9 - s.2) s.2 s.1 = getN b (a : Nat)) (fun s => 9 - s.2) (0, 0) [] [] ?_ Gc.of ?_
  · exact ⟨by decide, by decide, hg0.symm⟩
  rintro ⟨x, i⟩ ⟨hx, hi, he⟩
  dsimp only at hx hi he ⊢
  refine run ?_
  refine r_ifd (fun h => ?_) (fun h => ?_)
  · have hn := bytesP_nth hb ((a : Int) + i)
    have hm := mul128 (i := i) (x := nth b ((a : Int) + i) % 128) (by omega) (by omega)
    have hp := pow128_le (i := i) (by omega)
    rw [show 9 - i = (8 - i) + 1 by omega, getL, if_pos (by omega)] at he
    refine run ?_
    refine r_ifd (fun h2 => ?_) (fun h2 => ?_)
    · rw [if_pos h2] at he
      refine run ?_
      exact ⟨(x + nth b ((a : Int) + i) % 128 * 128 ^ i, i + 1), [], [], Gc.of, by dsimp only; omega, ⟨by dsimp only; omega, by dsimp only; rw [Int.pow_succ]; omega⟩, by dsimp only; omega, by dsimp only; rw [← he]; congr 1; omega⟩
    · rw [if_neg h2] at he
      refine run ?_
      refine r_ifd (fun h3 => ?_) (fun h3 => ?_)
      · rw [if_pos (by omega)] at he
        have hg := gn_none he.symm
        rw [hg.1, hg.2.1, decide_eq_false hg.2.2]
        refine run ?_
        exact r_end [] []
      · rw [if_neg (by omega)] at he
        have hg := gn_some he.symm
        rw [hg.1, hg.2.1, decide_eq_true hg.2.2]
        refine run ?_
        exact r_end [] []
  · have hg : getN b (a : Nat) = none := by
      rw [← he]
      cases hk : 9 - i with
      | zero => rfl
      | succ j => rw [getL, if_neg (by omega)]
    have hg := gn_none hg
    rw [hg.1, hg.2.1, decide_eq_false hg.2.2]
    refine run ?_
    exact r_end [] []
instance (k : Nat) (b : List Int) (a : Int) : Con Try.prog F.impl_GetNum [.sl false k b.length 1 (rowT u8C b), .v (.int .i64 a)] (bytesP b ∧ b.length ≤ 140737488355328 ∧ a ≤ 4611686018427387904) (.tup [.v (.int .i64 (gnX b a)), .v (.int .i64 (gnA b a)), .v (.bool (decide (gnO b a)))]) [] := ⟨fun h => impl_GetNum k b a h⟩

set_option maxHeartbeats 4000000 in
theorem spec_GetNum (k : Nat) (b : List Int) (a : Int) (hpre : bytesP b ∧ b.length ≤ 140737488355328 ∧ a ≤ 4611686018427387904) : CallsT Try.prog [] F.spec_GetNum [.sl false k b.length 1 (rowT u8C b), .v (.int .i64 a)] (.tup [.v (.int .i64 (gnX b a)), .v (.int .i64 (gnA b a)), .v (.bool (decide (gnO b a)))]) [] := by
  refine fnT C.spec_GetNum ?_
  obtain ⟨hb, hl, ha⟩ := hpre
  refine run ?_
  refine r_ifd (fun h => ?_) (fun h => ?_)
  · have hg := gn_none (b := b) (a := a) (by
      unfold getN
      split
      · rfl
      · rw [getL, if_neg (by omega)])
    rw [hg.1, hg.2.1, decide_eq_false hg.2.2]
    refine run ?_
    exact r_end [] []
  obtain ⟨a, rfl⟩ := Int.eq_ofNat_of_zero_le (a := a) (by omega)
  have hg0 : getN b (a : Nat) = getL b a 9 0 0 := by rw [getN, if_neg (by omega), Int.toNat_natCast]
  refine run ?_
  refine r_loop_of (σ := Int × Nat) (fun s => [(0, .sl false k b.length 1 (rowT u8C b)), (1, .v (.int .i64 ((a : Nat)))), (7, .v (.int .i64 s.1)), (8, .v (.int .i64 (wrap64 (128 ^ s.2)))), (9, .v (.int .i64 ((s.2 : Nat))))]) (fun _ => []) (fun s => (0 ≤ s.1 ∧ s.1 < 128 ^ s.2) ∧ s.2 ≤ 9 ∧ getL b a (9 - s.2) s.2 s.1 = getN b (a : Nat)) (fun s => 9 - s.2) (0, 0) [] [] ?_ Gc.of ?_
  · exact ⟨by decide, by decide, hg0.symm⟩
  rintro ⟨x, i⟩ ⟨hx, hi, he⟩
  dsimp only at hx hi he ⊢
  refine run ?_
  refine r_ifd (fun h => ?_) (fun h => ?_)
  · have hn := bytesP_nth hb ((a : Int) + i)
    have hm := mul128 (i := i) (x := nth b ((a : Int) + i) % 128) (by omega) (by omega)
    have hp := pow128_le (i := i) (by omega)
    have hpp := pow128_pos i
    rw [wrap64_in (by omega)]
    rw [show 9 - i = (8 - i) + 1 by omega, getL, if_pos (by omega)] at he
    refine run ?_
    refine r_ifd (fun h2 => ?_) (fun h2 => ?_)
    · rw [if_neg (by omega)] at he
      refine run ?_
      refine r_ifd (fun h3 => ?_) (fun h3 => ?_)
      · rw [if_pos (by omega)] at he
        have hg := gn_none he.symm
        rw [hg.1, hg.2.1, decide_eq_false hg.2.2]
        refine run ?_
        exact r_end [] []
      · rw [if_neg (by omega)] at he
        have hg := gn_some he.symm
        rw [hg.1, hg.2.1, decide_eq_true hg.2.2]
        refine run ?_
        exact r_end [] []
    · rw [if_pos (by omega)] at he
      refine run ?_
      exact ⟨(x + nth b ((a : Int) + i) % 128 * 128 ^ i, i + 1), [], [], Gc.of, by dsimp only; omega, ⟨by dsimp only; omega, by dsimp only; rw [Int.pow_succ]; omega⟩, by dsimp only; omega, by dsimp only; rw [← he]; congr 1; omega⟩
  · have hg : getN b (a : Nat) = none := by
      rw [← he]
      cases hk : 9 - i with
      | zero => rfl
      | succ j => rw [getL, if_neg (by omega)]
    have hg := gn_none hg
    rw [hg.1, hg.2.1, decide_eq_false hg.2.2]
    refine run ?_
    exact r_end [] []
instance (k : Nat) (b : List Int) (a : Int) : Con Try.prog F.spec_GetNum [.sl false k b.length 1 (rowT u8C b), .v (.int .i64 a)] (bytesP b ∧ b.length ≤ 140737488355328 ∧ a ≤ 4611686018427387904) (.tup [.v (.int .i64 (gnX b a)), .v (.int .i64 (gnA b a)), .v (.bool (decide (gnO b a)))]) [] := ⟨fun h => spec_GetNum k b a h⟩

end Go.TL

/- The program's reader of bytes. No conditions but those that are written. -/
namespace Go.TL
set_option linter.unusedSimpArgs false
open Go.Proofs Go.RowKit
attribute [local irreducible] wpOpsT wpT EndT Ex.seq Ex.block W

section
variable {P : Program} {n : Nat} {S : Store} {fr : Nat → T} {ops : Array Oper} {d : Nat} {ty : TypeId} {pos : String} {aft : Array Edge} {rest : List Oper} {K : (Nat → T) → Store → Prop}
/-- A call that is lent one root, its contract given. -/
theorem r_call1j {pu pu' : Dr} {gd : Option (Nat × Bool)} {f : FuncId} {args : List Operand} {tys : Array TypeId} {ts2 : List T} {res2 res : T} {x y : Root} {S' : Store} (r : Nat) (hs : CallsT P [x] f ts2 res2 [y]) (h : wpOpsT P ops n pu' rest K (upd fr d res) S')
    (hw : wantedT ops fr ⟨some d, .call ⟨.value (.func f), args.toArray, tys⟩, ty, pos, aft, gd⟩ = some true := by rfl) (hx : S[r]? = some x := by rfl)
    (ha : lendTs false S [r] 1 (args.map (TL.ev fr)) = some ts2 := by rfl)
    (hn : gcTs [r] x.cs = x.cs := by first | rfl | (simp only [go_sem, ↓reduceIte, Nat.reduceEqDiff, Nat.reduceMul, Nat.reduceAdd, Nat.reduceSub, Nat.reduceLT, Nat.reduceGT, Nat.reduceLeDiff, Nat.reduceBEq, Int.reduceLT, Int.reduceLE, Int.reduceNe, Int.reduceEq, Int.reduceToNat, Int.reduceAdd, Int.reduceSub, Int.reduceMul, Int.reduceNeg, Nat.reducePow, Int.reducePow, Nat.reduceSubDiff, decide_true, decide_false, reduceCtorEq, or_self, or_false, false_or, or_true, true_or, if_false, gt_iff_lt, ge_iff_le, ne_eq, not_true_eq_false, not_false_eq_true, and_self, beq_self_eq_true, Bool.false_eq_true]; done)) (hr : allT (leafFree 1) res2 = true := by (first | (simp only [go_sem, ↓reduceIte, Nat.reduceEqDiff, Nat.reduceMul, Nat.reduceAdd, Nat.reduceSub, Nat.reduceLT, Nat.reduceGT, Nat.reduceLeDiff, Nat.reduceBEq, Int.reduceLT, Int.reduceLE, Int.reduceNe, Int.reduceEq, Int.reduceToNat, Int.reduceAdd, Int.reduceSub, Int.reduceMul, Int.reduceNeg, Nat.reducePow, Int.reducePow, Nat.reduceSubDiff, decide_true, decide_false, reduceCtorEq, or_self, or_false, false_or, or_true, true_or, if_false, gt_iff_lt, ge_iff_le, ne_eq, not_true_eq_false, not_false_eq_true, and_self, beq_self_eq_true, Bool.false_eq_true] <;> with_reducible rfl) | with_reducible rfl)) (hf : freeS 1 [y] = true := by rfl)
    (hres : ren (backId [r] S.length) res2 = res := by (first | (simp only [go_sem, ↓reduceIte, Nat.reduceEqDiff, Nat.reduceMul, Nat.reduceAdd, Nat.reduceSub, Nat.reduceLT, Nat.reduceGT, Nat.reduceLeDiff, Nat.reduceBEq, Int.reduceLT, Int.reduceLE, Int.reduceNe, Int.reduceEq, Int.reduceToNat, Int.reduceAdd, Int.reduceSub, Int.reduceMul, Int.reduceNeg, Nat.reducePow, Int.reducePow, Nat.reduceSubDiff, decide_true, decide_false, reduceCtorEq, or_self, or_false, false_or, or_true, true_or, if_false, gt_iff_lt, ge_iff_le, ne_eq, not_true_eq_false, not_false_eq_true, and_self, beq_self_eq_true, Bool.false_eq_true] <;> with_reducible rfl) | with_reducible rfl)) (hS : S.set r (Root.ren (backId [r] S.length) y) = S' := by (first | exact rfl)) (hd : Nat.blt d n = true := by rfl)
    (hp : Dr.step P ops n pu fr S ⟨some d, .call ⟨.value (.func f), args.toArray, tys⟩, ty, pos, aft, gd⟩ res S' pu' := by first | exact Dr.step.txt | exact dr_chain) :
    wpOpsT P ops n pu (⟨some d, .call ⟨.value (.func f), args.toArray, tys⟩, ty, pos, aft, gd⟩ :: rest) K fr S := by
  have hF : FreeS 1 [y] := fun z hz _ => List.all_eq_true.1 hf z hz
  have := hs.frame 1 (by decide) (fits_one hx hn) (.same _) ha hr hF (Nat.le_refl _)
  rw [hres, back_one, hS] at this
  exact r_op (opT_call hw (by simpa [okDst, Nat.blt_eq] using hd) (by simp [calleeT, TL.ev]) this) hp h
end

theorem add_sub_j (a n : Int) : a + n - n = a := by omega
attribute [local go_sem] add_sub_j

/-- A reader that may be lent. -/
def rdP (b : List Int) (a : Int) : Prop := bytesP b ∧ b.length ≤ 140737488351232 ∧ 0 ≤ a ∧ a ≤ b.length
/-- What a reader's number is, where it stands then, whether it is bad then. -/
def nQ (b : List Int) (a : Int) (q : Prop) : Prop := q ∨ ¬ gnO b a
instance (b : List Int) (a : Int) (q : Prop) [Decidable q] : Decidable (nQ b a q) := inferInstanceAs (Decidable (_ ∨ _))
def nX (b : List Int) (a : Int) (q : Prop) [Decidable q] : Int := if nQ b a q then 0 else gnX b a
def nA (b : List Int) (a : Int) (q : Prop) [Decidable q] : Int := if nQ b a q then a else gnA b a
theorem nA_b {b : List Int} {a : Int} (h : rdP b a) (q : Prop) [Decidable q] : rdP b (nA b a q) := by
  obtain ⟨h1, h2, h3, h4⟩ := h
  unfold nA
  split
  · exact ⟨h1, h2, h3, h4⟩
  · rename_i hq
    have := gn_b h1 (Decidable.not_not.1 (not_or.1 hq).2)
    exact ⟨h1, h2, by omega, by omega⟩
theorem nX_b {b : List Int} {a : Int} (h : rdP b a) (q : Prop) [Decidable q] : 0 ≤ nX b a q ∧ nX b a q < 9223372036854775808 := by
  unfold nX
  split
  · omega
  · rename_i hq
    exact (gn_b h.1 (Decidable.not_not.1 (not_or.1 hq).2)).1

theorem impl_reader_num (b : List Int) (a : Int) (q : Prop) [Decidable q] (hpre : rdP b a) : CallsT Try.prog [⟨0, true, [.sl false 0 b.length 1 (rowT u8C b), .v (.int .i64 a), .v (.bool (decide q))]⟩] F.impl_reader_num [.ptr 0 [] 0] (.v (.int .i64 (nX b a q))) [⟨0, true, [.sl false 0 b.length 1 (rowT u8C b), .v (.int .i64 (nA b a q)), .v (.bool (decide (nQ b a q)))]⟩] := by
  obtain ⟨hb, hl, h0, h1⟩ := hpre
  have hg : gnO b a → 0 ≤ gnX b a ∧ gnX b a < 9223372036854775808 := fun h => (gn_b hb h).1
  refine fnT C.impl_reader_num ?_
  refine run ?_
  refine r_ifd (fun h => ?_) (fun h => ?_)
  · rw [show nX b a q = 0 from if_pos h, show nA b a q = a from if_pos h, decide_eq_true (show nQ b a q from h)]
    refine run ?_
    exact r_end [0] [] (hm := keep_one _)
  · rw [show nX b a q = gnX b a from if_neg h, show nA b a q = gnA b a from if_neg h, decide_eq_false (show ¬ nQ b a q from h)]
    rw [decide_eq_false (show ¬ q from fun hq => h (.inl hq))]
    refine run ?_
    exact r_end [0] [] (hm := keep_one _)
instance (b : List Int) (a : Int) (q : Prop) [Decidable q] : Con1 Try.prog ⟨0, true, [.sl false 0 b.length 1 (rowT u8C b), .v (.int .i64 a), .v (.bool (decide q))]⟩ F.impl_reader_num [.ptr 0 [] 0] (rdP b a) (.v (.int .i64 (nX b a q))) ⟨0, true, [.sl false 0 b.length 1 (rowT u8C b), .v (.int .i64 (nA b a q)), .v (.bool (decide (nQ b a q)))]⟩ := ⟨fun h => impl_reader_num b a q h⟩

theorem impl_reader_done (b : List Int) (a : Int) (q : Prop) [Decidable q] : CallsT Try.prog [⟨0, true, [.sl false 0 b.length 1 (rowT u8C b), .v (.int .i64 a), .v (.bool (decide q))]⟩] F.impl_reader_done [.ptr 0 [] 0] (.v (.bool (decide (¬ q ∧ a = b.length)))) [⟨0, true, [.sl false 0 b.length 1 (rowT u8C b), .v (.int .i64 a), .v (.bool (decide q))]⟩] := by
  refine fnT C.impl_reader_done ?_
  refine run ?_
  exact r_end [0] [] (hm := keep_one _)
instance (b : List Int) (a : Int) (q : Prop) [Decidable q] : Con1 Try.prog ⟨0, true, [.sl false 0 b.length 1 (rowT u8C b), .v (.int .i64 a), .v (.bool (decide q))]⟩ F.impl_reader_done [.ptr 0 [] 0] True (.v (.bool (decide (¬ q ∧ a = b.length)))) ⟨0, true, [.sl false 0 b.length 1 (rowT u8C b), .v (.int .i64 a), .v (.bool (decide q))]⟩ := ⟨fun _ => impl_reader_done b a q⟩

/-- What so many bytes are. -/
def bQ (b : List Int) (a n : Int) (q : Prop) : Prop := q ∨ b.length - a < n
instance (b : List Int) (a n : Int) (q : Prop) [Decidable q] : Decidable (bQ b a n q) := inferInstanceAs (Decidable (_ ∨ _))
def bX (b : List Int) (a n : Int) (q : Prop) [Decidable q] : ByteArray := if bQ b a n q then ⟨#[]⟩ else strOfT (cutL b a (a + n))
def bA (b : List Int) (a n : Int) (q : Prop) [Decidable q] : Int := if bQ b a n q then a else a + n

theorem impl_reader_bytes (b : List Int) (a n : Int) (q : Prop) [Decidable q] (hpre : rdP b a ∧ 0 ≤ n ∧ n < 9223372036854775808) : CallsT Try.prog [⟨0, true, [.sl false 0 b.length 1 (rowT u8C b), .v (.int .i64 a), .v (.bool (decide q))]⟩] F.impl_reader_bytes [.ptr 0 [] 0, .v (.int .i64 n)] (.v (.string (bX b a n q))) [⟨0, true, [.sl false 0 b.length 1 (rowT u8C b), .v (.int .i64 (bA b a n q)), .v (.bool (decide (bQ b a n q)))]⟩] := by
  obtain ⟨⟨hb, hl, h0, h1⟩, hn0, hn⟩ := hpre
  refine fnT C.impl_reader_bytes ?_
  refine run ?_
  refine r_ifd (fun h => ?_) (fun h => ?_)
  · rw [show bX b a n q = ⟨#[]⟩ from if_pos h, show bA b a n q = a from if_pos h, decide_eq_true (show bQ b a n q from h)]
    refine run ?_
    exact r_end [0] [] (hm := keep_one _)
  · have hqf : ¬ q := fun hq => h (.inl hq)
    have hnn : n ≤ b.length - a := by
      have := (not_or.1 h).2
      omega
    rw [show bX b a n q = strOfT (cutL b a (a + n)) from if_neg h, show bA b a n q = a + n from if_neg h, decide_eq_false (show ¬ bQ b a n q from h)]
    rw [decide_eq_false hqf]
    refine run ?_
    exact r_end [0] [] (hm := keep_one _)
instance (b : List Int) (a n : Int) (q : Prop) [Decidable q] : Con1 Try.prog ⟨0, true, [.sl false 0 b.length 1 (rowT u8C b), .v (.int .i64 a), .v (.bool (decide q))]⟩ F.impl_reader_bytes [.ptr 0 [] 0, .v (.int .i64 n)] (rdP b a ∧ 0 ≤ n ∧ n < 9223372036854775808) (.v (.string (bX b a n q))) ⟨0, true, [.sl false 0 b.length 1 (rowT u8C b), .v (.int .i64 (bA b a n q)), .v (.bool (decide (bQ b a n q)))]⟩ := ⟨fun h => impl_reader_bytes b a n q h⟩

/-- What a text is. -/
def tQ (b : List Int) (a : Int) (q : Prop) [Decidable q] : Prop := nQ b a q ∨ 3000 < nX b a q
instance (b : List Int) (a : Int) (q : Prop) [Decidable q] : Decidable (tQ b a q) := inferInstanceAs (Decidable (_ ∨ _))

theorem impl_reader_text (b : List Int) (a : Int) (q : Prop) [Decidable q] (hpre : rdP b a) : CallsT Try.prog [⟨0, true, [.sl false 0 b.length 1 (rowT u8C b), .v (.int .i64 a), .v (.bool (decide q))]⟩] F.impl_reader_text [.ptr 0 [] 0] (.v (.string (bX b (nA b a q) (nX b a q) (tQ b a q)))) [⟨0, true, [.sl false 0 b.length 1 (rowT u8C b), .v (.int .i64 (bA b (nA b a q) (nX b a q) (tQ b a q))), .v (.bool (decide (bQ b (nA b a q) (nX b a q) (tQ b a q))))]⟩] := by
  have hn := nX_b hpre q
  have ha := nA_b hpre q
  refine fnT C.impl_reader_text ?_
  refine runC ?_
  refine r_call1 ?_
  refine runC ?_
  refine r_ifd (fun h => ?_) (fun h => ?_)
  · refine runC ?_
    have hc := impl_reader_bytes b (nA b a q) (nX b a q) True ⟨ha, hn⟩
    have e1 : tQ b a q := .inr h
    have e : bQ b (nA b a q) (nX b a q) (tQ b a q) := .inl e1
    have e2 : bQ b (nA b a q) (nX b a q) True := .inl trivial
    rw [show bX b (nA b a q) (nX b a q) (tQ b a q) = ⟨#[]⟩ from if_pos e, show bA b (nA b a q) (nX b a q) (tQ b a q) = nA b a q from if_pos e, decide_eq_true e]
    rw [show bX b (nA b a q) (nX b a q) True = ⟨#[]⟩ from if_pos e2, show bA b (nA b a q) (nX b a q) True = nA b a q from if_pos e2, decide_eq_true e2] at hc
    refine r_call1j 0 hc ?_
    refine run ?_
    exact r_end [0] [] (hm := keep_one _)
  · refine runC ?_
    have e : tQ b a q ↔ nQ b a q := ⟨fun h2 => h2.resolve_right h, .inl⟩
    have e3 : bQ b (nA b a q) (nX b a q) (tQ b a q) ↔ bQ b (nA b a q) (nX b a q) (nQ b a q) := by unfold bQ; rw [e]
    rw [show bX b (nA b a q) (nX b a q) (tQ b a q) = bX b (nA b a q) (nX b a q) (nQ b a q) by unfold bX; simp only [e3], show bA b (nA b a q) (nX b a q) (tQ b a q) = bA b (nA b a q) (nX b a q) (nQ b a q) by unfold bA; simp only [e3], decide_eq_decide.2 e3]
    refine r_call1 ?_
    refine run ?_
    exact r_end [0] [] (hm := keep_one _)
instance (b : List Int) (a : Int) (q : Prop) [Decidable q] : Con1 Try.prog ⟨0, true, [.sl false 0 b.length 1 (rowT u8C b), .v (.int .i64 a), .v (.bool (decide q))]⟩ F.impl_reader_text [.ptr 0 [] 0] (rdP b a) (.v (.string (bX b (nA b a q) (nX b a q) (tQ b a q)))) ⟨0, true, [.sl false 0 b.length 1 (rowT u8C b), .v (.int .i64 (bA b (nA b a q) (nX b a q) (tQ b a q))), .v (.bool (decide (bQ b (nA b a q) (nX b a q) (tQ b a q))))]⟩ := ⟨fun h => impl_reader_text b a q h⟩

end Go.TL

/- A piece that tells a part, and a text that is read, both sides. No conditions but those that are written. -/
namespace Go.TL
set_option linter.unusedSimpArgs false
open Go.Proofs Go.RowKit
attribute [local irreducible] wpOpsT wpT EndT Ex.seq Ex.block W

theorem strL_ofJ {l : List Int} (h : bytesP l) : strL (strOfT l) = l := by
  unfold strL strOfT
  rw [List.toList_toArray, List.map_map]
  conv => rhs; rw [← List.map_id l]
  refine List.map_congr_left fun x hx => ?_
  have := h x hx
  show ((UInt8.ofNat x.toNat).toNat : Int) = x
  rw [UInt8.toNat_ofNat']
  omega
theorem strOf_LJ (s : ByteArray) : strOfT (strL s) = s := by
  apply ByteArray.ext
  apply Array.ext'
  unfold strL strOfT
  rw [List.toList_toArray, List.map_map]
  conv => rhs; rw [← List.map_id s.data.toList]
  refine List.map_congr_left fun x _ => ?_
  show UInt8.ofNat ((x.toNat : Int).toNat) = x
  rw [Int.toNat_natCast, UInt8.ofNat_toNat]
/-- A cut of a text's bytes is the text's cut. -/
theorem strOf_cutL (s : ByteArray) (a e : Int) : strOfT (cutL (strL s) a e) = s.extract a.toNat e.toNat := by
  conv => rhs; rw [← strOf_LJ (s.extract a.toNat e.toNat)]
  congr 1
  unfold cutL strL
  rw [show (s.extract a.toNat e.toNat).data = s.data.extract a.toNat e.toNat from ByteArray.data_extract, Array.toList_extract, List.extract_eq_take_drop, List.map_take, List.map_drop]

/-- A piece that tells a part. -/
def piecePutB (r i : Int) (s : ByteArray) : ByteArray := if (1 ≤ r ∧ r ≤ 1000) ∧ (0 ≤ i ∧ i ≤ 1000) ∧ 1 ≤ s.size ∧ s.size ≤ 16 then strOfT ([2, r, i].flatMap (putNumL 10) ++ textL s) else ⟨#[]⟩
theorem piecePut_l (r i : Int) : [2, r, i].flatMap (putNumL 10) = cat1 2 (putNumL 10 r) ++ putNumL 10 i := by
  simp [putNumL, cat1]

set_option maxHeartbeats 4000000 in
theorem impl_PiecePut (r i : Int) (s : ByteArray) (hpre : s.size ≤ 140737488351232) : CallsT Try.prog [] F.impl_PiecePut [.v (.int .i64 r), .v (.int .i64 i), .v (.string s)] (.v (.string (piecePutB r i s))) [] := by
  refine fnT C.impl_PiecePut ?_
  refine run ?_
  refine r_ifd (fun h => ?_) (fun h => ?_)
  · rw [show piecePutB r i s = ⟨#[]⟩ from if_neg (by grind)]
    refine run ?_
    exact r_end [] []
  · have h1 : (1 ≤ r ∧ r ≤ 1000) ∧ (0 ≤ i ∧ i ≤ 1000) ∧ 1 ≤ s.size ∧ s.size ≤ 16 := by grind
    rw [show piecePutB r i s = strOfT ([2, r, i].flatMap (putNumL 10) ++ textL s) from if_pos h1]
    have hn := nums_len [2, r, i]
    have ht : (textL s).length ≤ 10 + s.size := by
      have := putNumL_len 10 s.size
      rw [textL, List.length_append, strL_length]; omega
    simp only [List.length_cons, List.length_nil] at hn
    refine run ?_
    refine r_callp true (impl_putNums [2, r, i] 1 ⟨by intro x hx; simp only [List.mem_cons, List.not_mem_nil, or_false] at hx; omega, by simp⟩) ?_
    refine run ?_
    exact r_end [] []
instance (r i : Int) (s : ByteArray) : Con Try.prog F.impl_PiecePut [.v (.int .i64 r), .v (.int .i64 i), .v (.string s)] (s.size ≤ 140737488351232) (.v (.string (piecePutB r i s))) [] := ⟨fun h => impl_PiecePut r i s h⟩

set_option maxHeartbeats 4000000 in
theorem spec_PiecePut (r i : Int) (s : ByteArray) (hpre : s.size ≤ 140737488351232) : CallsT Try.prog [] F.spec_PiecePut [.v (.int .i64 r), .v (.int .i64 i), .v (.string s)] (.v (.string (piecePutB r i s))) [] := by
  refine fnT C.spec_PiecePut ?_
  have hpo := putNumL_len 10 r
  have hps := putNumL_len 10 i
  refine run ?_
  refine r_ifd (fun h => ?_) (fun h => ?_)
  · rw [show piecePutB r i s = ⟨#[]⟩ from if_neg (by grind)]
    refine run ?_
    exact r_end [] []
  · have h1 : (1 ≤ r ∧ r ≤ 1000) ∧ (0 ≤ i ∧ i ≤ 1000) ∧ 1 ≤ s.size ∧ s.size ≤ 16 := by grind
    rw [show piecePutB r i s = strOfT (cat1 2 (putNumL 10 r) ++ putNumL 10 i ++ textL s) from (if_pos h1).trans (by rw [piecePut_l])]
    have ht : (textL s).length ≤ 10 + s.size := by
      have := putNumL_len 10 s.size
      rw [textL, List.length_append, strL_length]; omega
    refine run ?_
    exact r_end [] []
instance (r i : Int) (s : ByteArray) : Con Try.prog F.spec_PiecePut [.v (.int .i64 r), .v (.int .i64 i), .v (.string s)] (s.size ≤ 140737488351232) (.v (.string (piecePutB r i s))) [] := ⟨fun h => spec_PiecePut r i s h⟩

/-- What a text is, read by the reference: whether it is there. -/
def txO (b : List Int) (a : Int) : Prop := gnO b a ∧ gnX b a ≤ 3000 ∧ gnX b a ≤ b.length - gnA b a
instance (b : List Int) (a : Int) : Decidable (txO b a) := inferInstanceAs (Decidable (_ ∧ _))
def txV (b : List Int) (a : Int) : ByteArray := if txO b a then strOfT (cutL b (gnA b a) (gnA b a + gnX b a)) else ⟨#[]⟩
def txA (b : List Int) (a : Int) : Int := if txO b a then gnA b a + gnX b a else 0

theorem gnA_b {b : List Int} (hb : bytesP b) (a : Int) : 0 ≤ gnA b a ∧ gnA b a ≤ b.length := by
  by_cases h : gnO b a
  · have := gn_b hb h; omega
  · have := gn_0 h; omega
theorem gnX_b {b : List Int} (hb : bytesP b) (a : Int) : 0 ≤ gnX b a ∧ gnX b a < 9223372036854775808 := by
  by_cases h : gnO b a
  · have := gn_b hb h; omega
  · have := gn_0 h; omega

set_option maxHeartbeats 4000000 in
theorem spec_GetText (k : Nat) (b : List Int) (a : Int) (hpre : bytesP b ∧ b.length ≤ 140737488351232 ∧ a ≤ 4611686018427387904) : CallsT Try.prog [] F.spec_GetText [.sl false k b.length 1 (rowT u8C b), .v (.int .i64 a)] (.tup [.v (.string (txV b a)), .v (.int .i64 (txA b a)), .v (.bool (decide (txO b a)))]) [] := by
  refine fnT C.spec_GetText ?_
  obtain ⟨hb, hl, ha⟩ := hpre
  have hg : gnO b a → _ := gn_b hb
  have hga := gnA_b hb a
  have hgx := gnX_b hb a
  refine run ?_
  refine r_ifd (fun h => ?_) (fun h => ?_)
  · have h1 : ¬ txO b a := by unfold txO; grind
    rw [show txV b a = ⟨#[]⟩ from if_neg h1, show txA b a = 0 from if_neg h1, decide_eq_false h1]
    refine run ?_
    exact r_end [] []
  · have h1 : txO b a := by unfold txO; grind
    have hg := hg h1.1
    have h2 := h1.2
    rw [show txV b a = strOfT (cutL b (gnA b a) (gnA b a + gnX b a)) from if_pos h1, show txA b a = gnA b a + gnX b a from if_pos h1, decide_eq_true h1]
    refine run ?_
    exact r_end [] []
instance (k : Nat) (b : List Int) (a : Int) : Con Try.prog F.spec_GetText [.sl false k b.length 1 (rowT u8C b), .v (.int .i64 a)] (bytesP b ∧ b.length ≤ 140737488351232 ∧ a ≤ 4611686018427387904) (.tup [.v (.string (txV b a)), .v (.int .i64 (txA b a)), .v (.bool (decide (txO b a)))]) [] := ⟨fun h => spec_GetText k b a h⟩

end Go.TL
