/- The row of the law FnClocks. No conditions. -/
import Derived.Test.YtkecbkljfpebhaaRows
import Derived.Test.YtkecbkljfpebhaaNs
import Derived.Test.YtkecbkljfpebhaaL33
import Derived.Test.YtkecbkljfpebhaaOpB
import Derived.WalkKit
import Derived.ProofKit
import Derived.OpenShut
import Derived.ShutString
import Derived.ChangeOld
import Derived.Below
import Derived.SizedLaws
namespace Go.Proofs.Ytkecbkljfpebhaa.fnClocks
open Go.ChangeShapes Go.WideShapes Go.ChangeAt Go.RowKit
open Go.TL (open_arg outT small_of trodAll_below)
set_option linter.unusedVariables false
theorem own : ownKnob Try.prog.godebug = none := by kernel_rfl
set_option maxRecDepth 100000 in
theorem lifted (os : Os) (started : os.Started) (H : Type) (enc : TypeId × Value → H) :
    ReturnsInHanded {} Try.checked os 5 .any (Rows.fnClocksSpec.pre6 enc Try.prog Try.f5 Rows.fnClocksRow.domain false) (Rows.fnClocksSpec.post enc Try.prog Try.f5 false true false false) := by
  refine returnsInHanded_of_change_sized (C := Try.checked) own started (by kernel_rfl) Try.func5
    (ChangeSpec.witness6 (enc := enc) (C := Try.checked) false ⟨#[], #[.slice none 0 0], []⟩ 8 (by kernel_rfl) (by kernel_rfl) (by kernel_rfl) (by kernel_rfl)) ?_
  intro W base args ds gs before hval0 hW hcnd hsz0 _
  have hG : Go.TL.Gl W W.heap.size := trivial
  have hsz : (DataW.weightsEach Try.prog (Try.f5.params.toList ++ Rows.fnClocksSpec.plain.varTypes Try.prog) (ds ++ gs)).all (· ≤ reachBytes) = true := hsz0
  have hval : ∀ (j : Nat) t v, Try.f5.params[j]? = some t → args[j]? = some v → Value.okWide Try.prog W .any base t v := hval0
  have hW1 := hW
  obtain ⟨p, q, hA0, hV, rfl, hfz, hnd⟩ := hW
  have hA : DataW.TrodAll enc Try.prog W 0 (fun _ => true) true Try.f5.params.toList args.toList ds p := hA0
  rw [Try.params5] at hA hval hsz
  obtain ⟨v0, vs0, d0, ds0, p0, q0, hargs, rfl, rfl, h0, r0⟩ := trodAll_cons hA
  obtain ⟨rfl, rfl, rfl⟩ := trodAll_nil r0
  obtain rfl : args = #[v0] := by cases args; simp_all
  obtain ⟨rfl, rfl⟩ := trodVars_none hV
  obtain ⟨a0, t0, w0, e0, x0⟩ := open_arg Go.TL.open_bytes h0 (small_of hsz 0 rfl rfl) (hval 0 22 v0 rfl rfl) (fun _ => rfl) ⟨_, Go.TL.t22_ag⟩ (by first | exact fun _ _ => rfl | (intro h; rw [Go.TL.t22_ag] at h; cases h))
  simp only [outT, Go.TL.t22_ag, Option.some.injEq] at e0
  subst e0
  have hlt := hW1.lt
  clear hA0 hval0 hsz0 hsz
  refine ((Go.TL.laws_FnClocks a0 ⟨fun x hx => Go.TL.wf_u8 (w0.2 x hx), by have := w0.1; omega⟩).lift W #[v0] hG rfl (fun i t hi => ?_)).mono fun e W1 ⟨he, bel⟩ => ?_
  · match i, hi with
    | 0, hi => cases hi; exact x0
    | i + 1, hi => simp at hi
  subst he
  exact ⟨_, rfl, _, _, _, [], _, [], hW1, trodAll_mk1 (shut_bool Try.underlying4 _), trodAll_below Go.TL.laid bel _ _ _ _ (by kernel_rfl) hA (fun x hx => hlt x (by simpa using hx)), rfl, bel.frame _, fun h => by cases h⟩
theorem over : Rows.fnClocksRow.holds Try.pinned (OpenSpec.ofChange Rows.fnClocksSpec) :=
  OpenClaim.holds_of_wide 5 Try.f5 rfl rfl rfl rfl rfl rfl rfl ⟨rfl, rfl, rfl, rfl, rfl⟩ rfl rfl rfl rfl rfl (by kernel_rfl) Try.func5 (by kernel_rfl)
    (of_decide_eq_true (by kernel_rfl)) (by unfold Func.isWrapper; first | (rw [if_pos (by decide +kernel)]; kernel_rfl) | (rw [if_neg (by decide +kernel)]; exact ⟨rfl, rfl⟩))
    (fun os started H enc _ => lifted os started H enc)
theorem proved : Rows.FnClocksSaid := over
#print axioms proved
end Go.Proofs.Ytkecbkljfpebhaa.fnClocks
namespace Go.Proofs.Ytkecbkljfpebhaa
/-- The row, under a short name, for the claim. -/
theorem fnClocks_holds : Rows.FnClocksSaid := fnClocks.proved
end Go.Proofs.Ytkecbkljfpebhaa
