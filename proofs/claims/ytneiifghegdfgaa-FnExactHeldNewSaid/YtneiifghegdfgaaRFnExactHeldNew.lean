/- The row of the law FnExactHeldNew. No conditions. -/
import Derived.Test.YtneiifghegdfgaaRows
import Derived.Test.YtneiifghegdfgaaNs
import Derived.Test.YtneiifghegdfgaaL26
import Derived.Test.YtneiifghegdfgaaOpH
import Derived.WalkKit
import Derived.ProofKit
import Derived.OpenShut
import Derived.ShutString
import Derived.ChangeOld
import Derived.Below
import Derived.SizedLaws
namespace Go.Proofs.Ytneiifghegdfgaa.fnExactHeldNew
open Go.ChangeShapes Go.WideShapes Go.ChangeAt Go.RowKit
open Go.TL (open_arg outT small_of trodAll_below)
set_option linter.unusedVariables false
theorem own : ownKnob Try.prog.godebug = none := by kernel_rfl
set_option maxRecDepth 100000 in
theorem lifted (os : Os) (started : os.Started) (H : Type) (enc : TypeId × Value → H) :
    ReturnsInHanded {} Try.checked os 3 .any (Rows.fnExactHeldNewSpec.pre6 enc Try.prog Try.f3 Rows.fnExactHeldNewRow.domain false) (Rows.fnExactHeldNewSpec.post enc Try.prog Try.f3 false true false false) := by
  refine returnsInHanded_of_change_sized (C := Try.checked) own started (by kernel_rfl) Try.func3
    (ChangeSpec.witness6 (enc := enc) (C := Try.checked) false ⟨#[], #[.slice none 0 0, .int .i64 0, .int .i64 0, .string ByteArray.empty], []⟩ 8 (by kernel_rfl) (by kernel_rfl) (by kernel_rfl) (by kernel_rfl)) ?_
  intro W base args ds gs before hval0 hW hcnd hsz0 _
  have hG : Go.TL.Gl W W.heap.size := trivial
  have hsz : (DataW.weightsEach Try.prog (Try.f3.params.toList ++ Rows.fnExactHeldNewSpec.plain.varTypes Try.prog) (ds ++ gs)).all (· ≤ reachBytes) = true := hsz0
  have hval : ∀ (j : Nat) t v, Try.f3.params[j]? = some t → args[j]? = some v → Value.okWide Try.prog W .any base t v := hval0
  have hW1 := hW
  obtain ⟨p, q, hA0, hV, rfl, hfz, hnd⟩ := hW
  have hA : DataW.TrodAll enc Try.prog W 0 (fun _ => true) true Try.f3.params.toList args.toList ds p := hA0
  rw [Try.params3] at hA hval hsz
  obtain ⟨v0, vs0, d0, ds0, p0, q0, hargs, rfl, rfl, h0, r0⟩ := trodAll_cons hA
  obtain ⟨v1, vs1, d1, ds1, p1, q1, rfl, rfl, rfl, h1, r1⟩ := trodAll_cons r0
  obtain ⟨v2, vs2, d2, ds2, p2, q2, rfl, rfl, rfl, h2, r2⟩ := trodAll_cons r1
  obtain ⟨v3, vs3, d3, ds3, p3, q3, rfl, rfl, rfl, h3, r3⟩ := trodAll_cons r2
  obtain ⟨rfl, rfl, rfl⟩ := trodAll_nil r3
  obtain rfl : args = #[v0, v1, v2, v3] := by cases args; simp_all
  obtain ⟨rfl, rfl⟩ := trodVars_none hV
  obtain ⟨a0, t0, w0, e0, x0⟩ := open_arg Go.TL.open_HeldS h0 (small_of hsz 0 rfl rfl) (hval 0 22 v0 rfl rfl) (fun _ => rfl) ⟨_, Go.TL.t22_ag⟩ (by first | exact fun _ _ => rfl | (intro h; rw [Go.TL.t22_ag] at h; cases h))
  simp only [outT, Go.TL.t22_ag, Option.some.injEq] at e0
  subst e0
  obtain ⟨a1, t1, w1, e1, x1⟩ := open_arg Go.TL.open_int h1 (small_of hsz 1 rfl rfl) (hval 1 3 v1 rfl rfl) (fun _ => rfl) ⟨_, Go.TL.t3_ag⟩ (by first | exact fun _ _ => rfl | (intro h; rw [Go.TL.t3_ag] at h; cases h))
  simp only [outT, Go.TL.t3_ag, Option.some.injEq] at e1
  subst e1
  obtain ⟨a2, t2, w2, e2, x2⟩ := open_arg Go.TL.open_int h2 (small_of hsz 2 rfl rfl) (hval 2 3 v2 rfl rfl) (fun _ => rfl) ⟨_, Go.TL.t3_ag⟩ (by first | exact fun _ _ => rfl | (intro h; rw [Go.TL.t3_ag] at h; cases h))
  simp only [outT, Go.TL.t3_ag, Option.some.injEq] at e2
  subst e2
  obtain ⟨a3, t3, w3, e3, x3⟩ := open_arg Go.TL.open_str h3 (small_of hsz 3 rfl rfl) (hval 3 9 v3 rfl rfl) (fun _ => rfl) ⟨_, Go.TL.t9_ag⟩ (by first | exact fun _ _ => rfl | (intro h; rw [Go.TL.t9_ag] at h; cases h))
  simp only [outT, Go.TL.t9_ag, Option.some.injEq] at e3
  subst e3
  have hlt := hW1.lt
  clear hA0 hval0 hsz0 hsz
  refine ((Go.TL.laws_FnExactHeldNew 0 a0 a1 a2 a3 ⟨w0, by have := w3; omega⟩).lift W #[v0, v1, v2, v3] hG rfl (fun i t hi => ?_)).mono fun e W1 ⟨he, bel⟩ => ?_
  · match i, hi with
    | 0, hi => cases hi; exact x0
    | 1, hi => cases hi; exact x1
    | 2, hi => cases hi; exact x2
    | 3, hi => cases hi; exact x3
    | i + 4, hi => simp at hi
  subst he
  exact ⟨_, rfl, _, _, _, [], _, [], hW1, trodAll_mk1 (shut_bool Try.underlying4 _), trodAll_below Go.TL.laid bel _ _ _ _ (by kernel_rfl) hA (fun x hx => hlt x (by simpa using hx)), rfl, bel.frame _, fun h => by cases h⟩
theorem over : Rows.fnExactHeldNewRow.holds Try.pinned (OpenSpec.ofChange Rows.fnExactHeldNewSpec) :=
  OpenClaim.holds_of_wide 3 Try.f3 rfl rfl rfl rfl rfl rfl rfl ⟨rfl, rfl, rfl, rfl, rfl⟩ rfl rfl rfl rfl rfl (by kernel_rfl) Try.func3 (by kernel_rfl)
    (of_decide_eq_true (by kernel_rfl)) (by unfold Func.isWrapper; first | (rw [if_pos (by decide +kernel)]; kernel_rfl) | (rw [if_neg (by decide +kernel)]; exact ⟨rfl, rfl⟩))
    (fun os started H enc _ => lifted os started H enc)
theorem proved : Rows.FnExactHeldNewSaid := over
#print axioms proved
end Go.Proofs.Ytneiifghegdfgaa.fnExactHeldNew
namespace Go.Proofs.Ytneiifghegdfgaa
/-- The row, under a short name, for the claim. -/
theorem fnExactHeldNew_holds : Rows.FnExactHeldNewSaid := fnExactHeldNew.proved
end Go.Proofs.Ytneiifghegdfgaa
