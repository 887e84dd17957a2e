/- The row of the law FnExactZoneTable. No conditions. -/
import Derived.Test.YtkecbkljfpebhaaRows
import Derived.Test.YtkecbkljfpebhaaNs
import Derived.Test.YtkecbkljfpebhaaL31
import Derived.Test.YtkecbkljfpebhaaOpS
import Derived.WalkKit
import Derived.ProofKit
import Derived.OpenShut
import Derived.ShutString
import Derived.ChangeOld
import Derived.Below
import Derived.SizedLaws
namespace Go.Proofs.Ytkecbkljfpebhaa.fnExactZoneTable
open Go.ChangeShapes Go.WideShapes Go.ChangeAt Go.RowKit
open Go.TL (open_arg outT small_of trodAll_below)
set_option linter.unusedVariables false
theorem own : ownKnob Try.prog.godebug = none := by kernel_rfl
set_option maxRecDepth 100000 in
theorem lifted (os : Os) (started : os.Started) (H : Type) (enc : TypeId × Value → H) :
    ReturnsInHanded {} Try.checked os 6 .any (Rows.fnExactZoneTableSpec.pre6 enc Try.prog Try.f6 Rows.fnExactZoneTableRow.domain false) (Rows.fnExactZoneTableSpec.post enc Try.prog Try.f6 false true false false) := by
  refine returnsInHanded_of_change_sized (C := Try.checked) own started (by kernel_rfl) Try.func6
    (ChangeSpec.witness6 (enc := enc) (C := Try.checked) false ⟨#[], #[.agg #[.slice none 0 0, .slice none 0 0, .slice none 0 0], .int .i64 0], []⟩ 8 (by kernel_rfl) (by kernel_rfl) (by kernel_rfl) (by kernel_rfl)) ?_
  intro W base args ds gs before hval0 hW hcnd hsz0 _
  have hG : Go.TL.Gl W W.heap.size := trivial
  have hsz : (DataW.weightsEach Try.prog (Try.f6.params.toList ++ Rows.fnExactZoneTableSpec.plain.varTypes Try.prog) (ds ++ gs)).all (· ≤ reachBytes) = true := hsz0
  have hval : ∀ (j : Nat) t v, Try.f6.params[j]? = some t → args[j]? = some v → Value.okWide Try.prog W .any base t v := hval0
  have hW1 := hW
  obtain ⟨p, q, hA0, hV, rfl, hfz, hnd⟩ := hW
  have hA : DataW.TrodAll enc Try.prog W 0 (fun _ => true) true Try.f6.params.toList args.toList ds p := hA0
  rw [Try.params6] at hA hval hsz
  obtain ⟨v0, vs0, d0, ds0, p0, q0, hargs, rfl, rfl, h0, r0⟩ := trodAll_cons hA
  obtain ⟨v1, vs1, d1, ds1, p1, q1, rfl, rfl, rfl, h1, r1⟩ := trodAll_cons r0
  obtain ⟨rfl, rfl, rfl⟩ := trodAll_nil r1
  obtain rfl : args = #[v0, v1] := by cases args; simp_all
  obtain ⟨rfl, rfl⟩ := trodVars_none hV
  obtain ⟨a0, t0, w0, e0, x0⟩ := open_arg Go.TL.open_Source h0 (small_of hsz 0 rfl rfl) (hval 0 61 v0 rfl rfl) (fun _ => rfl) ⟨_, Go.TL.t61_ag⟩ (by first | exact fun _ _ => rfl | (intro h; rw [Go.TL.t61_ag] at h; cases h))
  simp only [outT, Go.TL.t61_ag, Option.some.injEq] at e0
  subst e0
  obtain ⟨a1, t1, w1, e1, x1⟩ := open_arg Go.TL.open_int h1 (small_of hsz 1 rfl rfl) (hval 1 3 v1 rfl rfl) (fun _ => rfl) ⟨_, Go.TL.t3_ag⟩ (by first | exact fun _ _ => rfl | (intro h; rw [Go.TL.t3_ag] at h; cases h))
  simp only [outT, Go.TL.t3_ag, Option.some.injEq] at e1
  subst e1
  have hlt := hW1.lt
  clear hA0 hval0 hsz0 hsz
  refine ((Go.TL.laws_FnExactZoneTable 0 0 0 a0.rules a0.zones a0.links a1 w0).lift W #[v0, v1] hG rfl (fun i t hi => ?_)).mono fun e W1 ⟨he, bel⟩ => ?_
  · match i, hi with
    | 0, hi => cases hi; exact x0
    | 1, hi => cases hi; exact x1
    | i + 2, hi => simp at hi
  subst he
  exact ⟨_, rfl, _, _, _, [], _, [], hW1, trodAll_mk1 (shut_bool Try.underlying4 _), trodAll_below Go.TL.laid bel _ _ _ _ (by kernel_rfl) hA (fun x hx => hlt x (by simpa using hx)), rfl, bel.frame _, fun h => by cases h⟩
theorem over : Rows.fnExactZoneTableRow.holds Try.pinned (OpenSpec.ofChange Rows.fnExactZoneTableSpec) :=
  OpenClaim.holds_of_wide 6 Try.f6 rfl rfl rfl rfl rfl rfl rfl ⟨rfl, rfl, rfl, rfl, rfl⟩ rfl rfl rfl rfl rfl (by kernel_rfl) Try.func6 (by kernel_rfl)
    (of_decide_eq_true (by kernel_rfl)) (by unfold Func.isWrapper; first | (rw [if_pos (by decide +kernel)]; kernel_rfl) | (rw [if_neg (by decide +kernel)]; exact ⟨rfl, rfl⟩))
    (fun os started H enc _ => lifted os started H enc)
theorem proved : Rows.FnExactZoneTableSaid := over
#print axioms proved
end Go.Proofs.Ytkecbkljfpebhaa.fnExactZoneTable
namespace Go.Proofs.Ytkecbkljfpebhaa
/-- The row, under a short name, for the claim. -/
theorem fnExactZoneTable_holds : Rows.FnExactZoneTableSaid := fnExactZoneTable.proved
end Go.Proofs.Ytkecbkljfpebhaa
