/- Laws that reckon operations on trees, and rules that walk code one step at a time. No conditions. -/
import Derived.Test.YtdnclbghhdflmaaTCall
import Derived.Test.YtdnclbghhdflmaaTDraw2
import Derived.IntWalk
import Derived.KernelRfl
namespace Go.TL
open Go.RowKit

def shrI (k : IntKind) (a b : Int) : Int := a.fdiv (2 ^ min b.toNat k.bits)
theorem shr64 (x : Int) (n : Nat) (hn : n ≤ 63) : shrI .i64 x n = x / 2 ^ n := by
  unfold shrI
  rw [show min (Int.toNat (n : Int)) IntKind.i64.bits = n by simp only [Int.toNat_natCast, IntKind.bits]; omega]
  exact Int.fdiv_eq_ediv_of_nonneg _ (Int.le_of_lt (Int.pow_pos (by decide)))
def and64 (a b : Int) : Int := IntKind.i64.wrap (BitVec.ofInt 64 a &&& BitVec.ofInt 64 b).toNat
def or64 (a b : Int) : Int := IntKind.i64.wrap (BitVec.ofInt 64 a ||| BitVec.ofInt 64 b).toNat
def xor64 (a b : Int) : Int := IntKind.i64.wrap (BitVec.ofInt 64 a ^^^ BitVec.ofInt 64 b).toNat

theorem wrap64_in {x : Int} (h : -9223372036854775808 ≤ x ∧ x ≤ 9223372036854775807) : wrap64 x = x := IntWalk.wrap64_in x h

theorem bv_nat (x : Nat) (h : x < 2 ^ 63) : (BitVec.ofInt 64 (x : Int)).toNat = x := by
  rw [BitVec.toNat_ofInt]
  omega

theorem and64_nat (x y : Nat) (hx : x < 2 ^ 63) (hy : y < 2 ^ 63) : and64 x y = ((x &&& y : Nat) : Int) := by
  unfold and64
  rw [BitVec.toNat_and, bv_nat x hx, bv_nat y hy, IntWalk.i64_left, wrap64_in]
  have := Nat.and_le_left (n := x) (m := y)
  omega

theorem or64_nat (x y : Nat) (hx : x < 2 ^ 63) (hy : y < 2 ^ 63) : or64 x y = ((x ||| y : Nat) : Int) := by
  unfold or64
  rw [BitVec.toNat_or, bv_nat x hx, bv_nat y hy, IntWalk.i64_left, wrap64_in]
  have := Nat.or_lt_two_pow hx hy
  omega

theorem and64_mask (k : Nat) (hk : k ≤ 62) (x : Int) (h0 : 0 ≤ x) (h1 : x < 2 ^ 63) (m : Int) (hm : m = 2 ^ k - 1) : and64 x m = x % 2 ^ k := by
  subst hm
  obtain ⟨n, rfl⟩ := Int.eq_ofNat_of_zero_le h0
  have hp : 0 < 2 ^ k := Nat.two_pow_pos k
  have hlt : 2 ^ k ≤ 2 ^ 62 := Nat.pow_le_pow_right (by decide) hk
  have e : ((2 : Int) ^ k - 1) = ((2 ^ k - 1 : Nat) : Int) := by
    rw [Int.natCast_sub (by omega)]
    simp
  rw [e, and64_nat n _ (by omega) (by omega), Nat.and_two_pow_sub_one_eq_mod]
  simp

theorem or64_high (k : Nat) (hk : k ≤ 62) (x : Int) (h0 : 0 ≤ x) (h1 : x < 2 ^ k) (m : Int) (hm : m = 2 ^ k) : or64 x m = x + 2 ^ k := by
  subst hm
  obtain ⟨n, rfl⟩ := Int.eq_ofNat_of_zero_le h0
  have hlt : 2 ^ k ≤ 2 ^ 62 := Nat.pow_le_pow_right (by decide) hk
  have e : ((2 : Int) ^ k) = ((2 ^ k : Nat) : Int) := by simp
  rw [e] at h1 ⊢
  have hn : n < 2 ^ k := by omega
  have := Nat.two_pow_add_eq_or_of_lt hn 1
  rw [Nat.mul_one] at this
  rw [or64_nat n _ (by omega) (by omega), Nat.or_comm, ← this]
  omega

section
variable (P : Program) (t : TypeId) (xo yo : Operand) (k : IntKind) (a b : Int)
theorem b_lss : binT P .lss t xo yo (.v (.int k a)) (.v (.int k b)) = some (.v (.bool (decide (a < b)))) := by simp [binT, toV, eqGuard, binOp, Op.intCmp, ofV]
theorem b_leq : binT P .leq t xo yo (.v (.int k a)) (.v (.int k b)) = some (.v (.bool (decide (a ≤ b)))) := by simp [binT, toV, eqGuard, binOp, Op.intCmp, ofV]
theorem b_gtr : binT P .gtr t xo yo (.v (.int k a)) (.v (.int k b)) = some (.v (.bool (decide (b < a)))) := by simp [binT, toV, eqGuard, binOp, Op.intCmp, ofV]
theorem b_geq : binT P .geq t xo yo (.v (.int k a)) (.v (.int k b)) = some (.v (.bool (decide (b ≤ a)))) := by simp [binT, toV, eqGuard, binOp, Op.intCmp, ofV]
theorem b_eql : binT P .eql t xo yo (.v (.int k a)) (.v (.int k b)) = some (.v (.bool (decide (a = b)))) := by
  simp [binT, toV, eqGuard, binOp, Op.intCmp, ofV]; rfl
theorem b_neq : binT P .neq t xo yo (.v (.int k a)) (.v (.int k b)) = some (.v (.bool (!decide (a = b)))) := by
  simp [binT, toV, eqGuard, binOp, Op.intCmp, ofV]; rfl
theorem b_add : binT P .add t xo yo (.v (.int .i64 a)) (.v (.int .i64 b)) = some (.v (.int .i64 (wrap64 (a + b)))) := by simp [binT, toV, eqGuard, binOp, Op.intArith, ofV, IntWalk.i64_left]
theorem b_sub : binT P .sub t xo yo (.v (.int .i64 a)) (.v (.int .i64 b)) = some (.v (.int .i64 (wrap64 (a - b)))) := by simp [binT, toV, eqGuard, binOp, Op.intArith, ofV, IntWalk.i64_left]
theorem b_mul : binT P .mul t xo yo (.v (.int .i64 a)) (.v (.int .i64 b)) = some (.v (.int .i64 (wrap64 (a * b)))) := by simp [binT, toV, eqGuard, binOp, Op.intArith, ofV, IntWalk.i64_left]
theorem b_quo (h : b ≠ 0) : binT P .quo t xo yo (.v (.int .i64 a)) (.v (.int .i64 b)) = some (.v (.int .i64 (wrap64 (a.tdiv b)))) := by simp [binT, toV, eqGuard, binOp, Op.intDiv, ofV, h, IntWalk.i64_left]
theorem b_rem (h : b ≠ 0) : binT P .rem t xo yo (.v (.int .i64 a)) (.v (.int .i64 b)) = some (.v (.int .i64 (a.tmod b))) := by simp [binT, toV, eqGuard, binOp, Op.intDiv, ofV, h]
theorem b_and : binT P .and t xo yo (.v (.int .i64 a)) (.v (.int .i64 b)) = some (.v (.int .i64 (and64 a b))) := by simp [binT, toV, eqGuard, binOp, Op.intBits, ofV]; rfl
theorem b_or : binT P .or t xo yo (.v (.int .i64 a)) (.v (.int .i64 b)) = some (.v (.int .i64 (or64 a b))) := by simp [binT, toV, eqGuard, binOp, Op.intBits, ofV]; rfl
theorem b_xor : binT P .xor t xo yo (.v (.int .i64 a)) (.v (.int .i64 b)) = some (.v (.int .i64 (xor64 a b))) := by simp [binT, toV, eqGuard, binOp, Op.intBits, ofV]; rfl
theorem b_shr (k' : IntKind) (h : 0 ≤ b) : binT P .shr t xo yo (.v (.int k a)) (.v (.int k' b)) = some (.v (.int k (shrI k a b))) := by
  have h : ¬ b < 0 := by omega
  simp [binT, toV, eqGuard, binOp, Op.shift, ofV, h]; rfl
theorem b_shl (k' : IntKind) (h : 0 ≤ b) : binT P .shl t xo yo (.v (.int k a)) (.v (.int k' b)) = some (.v (.int k (k.wrap (a * 2 ^ min b.toNat k.bits)))) := by
  have h : ¬ b < 0 := by omega
  simp [binT, toV, eqGuard, binOp, Op.shift, ofV, h]
end

/-! ### Rules that walk code -/
section
variable {P : Program} {M n : Nat} {fr : Nat → T} {S : Store} {Q : Ex → (Nat → T) → Store → Prop}
theorem r_seq {a b : Code} (h : wpT P M n a (Ex.seq (wpT P M n b Q) Q) fr S) : wpT P M n (.seq a b) Q fr S := h
theorem r_region {id : Nat} {l : List Oper} (h : wpOpsT P l.toArray n .txt l (Q .normal) fr S) : wpT P M n (.region id l.toArray false) Q fr S := .inl ⟨rfl, by simpa using h⟩
/-- A region whose order is drawn. -/
theorem r_draw {id : Nat} {l : List Oper} (h : wpOpsT P l.toArray n (.any 0 [] []) l (Q .normal) fr S) (hm : P.follows .mixedOrders = true := by kernel_rfl) (hok : drawOk l.toArray = true := by decide +kernel) : wpT P M n (.region id l.toArray true) Q fr S :=
  .inr ⟨rfl, W.draw hm hok (by simpa using h)⟩
theorem r_cond {c : Operand} {a b : Code} (t : Bool) (hc : TL.ev fr c = .v (.bool t)) (h1 : t = true → wpT P M n a Q fr S) (h2 : t = false → wpT P M n b Q fr S) : wpT P M n (.cond c a b) Q fr S := by
  refine ⟨t, hc, ?_⟩
  cases t <;> simp_all
theorem r_block {id : Nat} {a : Code} (h : wpT P M n a (Ex.block id Q) fr S) : wpT P M n (.block id a) Q fr S := h
theorem r_loop {a : Code} (h : LoopT M (fun Q' => W P M n a Q') Q fr S) : wpT P M n (.loop a) Q fr S := h
theorem r_skip (h : Q .normal fr S) : wpT P M n .skip Q fr S := h
theorem r_exit {id : Nat} (h : Q (.exit id) fr S) : wpT P M n (.exit id) Q fr S := h
theorem r_ret (h : Q .ret fr S) : wpT P M n .ret Q fr S := h
theorem r_ops {pu : Dr} {ops : Array Oper} {K : (Nat → T) → Store → Prop} (h : K fr S) : wpOpsT P ops n pu [] K fr S := h
theorem x_seq_n {A : (Nat → T) → Store → Prop} (h : A fr S) : Ex.seq A Q .normal fr S := h
theorem x_seq_r {A : (Nat → T) → Store → Prop} (h : Q .ret fr S) : Ex.seq A Q .ret fr S := h
theorem x_seq_e {A : (Nat → T) → Store → Prop} {id : Nat} (h : Q (.exit id) fr S) : Ex.seq A Q (.exit id) fr S := h
theorem x_block_n {id : Nat} (h : Q .normal fr S) : Ex.block id Q .normal fr S := h
theorem x_block_r {id : Nat} (h : Q .ret fr S) : Ex.block id Q .ret fr S := h
theorem x_block_e {id : Nat} (h : Q .normal fr S) : Ex.block id Q (.exit id) fr S := by simpa [Ex.block] using h
theorem x_block_o {id i : Nat} (hne : (i == id) = false) (h : Q (.exit i) fr S) : Ex.block id Q (.exit i) fr S := by
  simp only [Ex.block]; rw [if_neg (by simpa using hne)]; exact h

/-- One operation. -/
theorem r_op {pu pu' : Dr} {ops : Array Oper} {o : Oper} {rest : List Oper} {K : (Nat → T) → Store → Prop} {t : T} {S' : Store} (hop : opT P ops n fr S o t S') (hp : Dr.step P ops n pu fr S o t S' pu') (h : wpOpsT P ops n pu' rest K (put fr o.dst t) S') : wpOpsT P ops n pu (o :: rest) K fr S := ⟨t, S', pu', hop, hp, h⟩

theorem opT_do {ops : Array Oper} {o : Oper} {t : T} {S' : Store} (hw : wantedT ops fr o = some true) (hd : okDst n o.dst = true) (hc : calleeT fr o = none) (hs : stepT P S fr o = some (t, S')) : opT P ops n fr S o t S' := by
  simp only [opT, hw, hc]
  exact ⟨hd, hs⟩
theorem opT_call {ops : Array Oper} {o : Oper} {t : T} {S' : Store} {g : FuncId} {args : List T} (hw : wantedT ops fr o = some true) (hd : okDst n o.dst = true) (hc : calleeT fr o = some (g, args)) (hs : CallsT P S g args t S') : opT P ops n fr S o t S' := by
  simp only [opT, hw, hc]
  exact ⟨hd, hs⟩
theorem opT_not {ops : Array Oper} {o : Oper} (hw : wantedT ops fr o = some false) (hd : okDst n o.dst = true) : opT P ops n fr S o (.v undef) S := by
  simp only [opT, hw]
  exact ⟨hd, trivial, trivial⟩

end

theorem ev_tmp (fr : Nat → T) (i : Nat) : ev fr (.tmp i) = fr i := of_eq_true (eq_self _)
theorem ev_const (fr : Nat → T) (x : Value) : ev fr (.const x) = .v x := of_eq_true (eq_self _)

end Go.TL
