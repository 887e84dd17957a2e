/- The row of the law FnExactParseDeed. No conditions. -/
import Derived.Test.YtneiifghegdfgaaDoorRows
import Derived.Test.YtneiifghegdfgaaDoorCards
import Derived.Test.YtneiifghegdfgaaDoorTie
import Derived.Test.YtneiifghegdfgaaDoorNs
import Derived.Test.YtneiifghegdfgaaDoorU9
import Derived.Test.YtneiifghegdfgaaDoorOp0
import Derived.Test.YtneiifghegdfgaaDoorGo
import Derived.WalkKit
import Derived.ProofKit
import Derived.OpenShut
import Derived.ShutString
import Derived.ChangeOld
import Derived.Below
import Derived.SizedLaws
import Derived.LaidMore
import Derived.LaidLaws
import Derived.Stop.LaidErr
import Derived.Lib.LaidTab
import Derived.SevenTiedAt
import Derived.Lay
import Derived.Stop.Joined
namespace Go.Proofs.YtneiifghegdfgaaDoor.fnExactParseDeed
open Go.ChangeShapes Go.WideShapes Go.ChangeAt Go.RowKit
open Go.TL (open_arg outT small_of trodAll_below)
set_option linter.unusedVariables false
theorem own : ownKnob Tryd.prog.godebug = none := by kernel_rfl
set_option maxRecDepth 100000 in
theorem of_laid {W : World} (h : laidMetH Tryd.prog Rows.fnExactParseDeedRow.laid W) : Go.TL.Gl W W.heap.size := by
  rw [MakeChecks.laidMetH_plain _ _ _ (by kernel_rfl)] at h
  first | exact Go.TL.gl_of_laid h | exact Go.TL.gl_of_laid6 h
set_option maxRecDepth 100000 in
theorem lifted (os : Os) (started : os.Started) (H : Type) (enc : TypeId × Value → H) :
    ReturnsInHanded {} Tryd.checked os 3 .any (fun w args => (Rows.fnExactParseDeedSpec.pre enc Tryd.prog Tryd.f3 [] false w args ∧ laidMetH Tryd.prog Rows.fnExactParseDeedRow.laid w) ∧ sizedMet enc Tryd.prog Tryd.f3 (OpenSpec.ofChange Rows.fnExactParseDeedSpec) false w args) (Rows.fnExactParseDeedSpec.post enc Tryd.prog Tryd.f3 false true false false) := by
  refine returnsInHanded_of_change_and (C := Tryd.checked) (X := fun w _ => laidMetH Tryd.prog Rows.fnExactParseDeedRow.laid w) (fun _ _ _ hh h => h.of_heap hh) own started (by kernel_rfl) Tryd.func3
    (ChangeSpec.witness_shaped (enc := enc) (C := Tryd.checked) (os := os) (X := fun w _ => laidMetH Tryd.prog Rows.fnExactParseDeedRow.laid w) false (World.laidAll Tryd.prog os Rows.fnExactParseDeedRow.laid) #[.string ByteArray.empty] 8 (World.laidAll_os _ _ _) (World.shaped_of_ZipB (by kernel_rfl) (by kernel_rfl)) (by kernel_rfl) (by kernel_rfl) (by kernel_rfl) (by rw [MakeChecks.laidMetH_plain _ _ _ (by kernel_rfl)]; exact laidMet_laidAll _ (by kernel_rfl) (by kernel_rfl))) ?_
  intro W base args ds gs before hval0 hW hcnd hsz0 hL _
  have hG := of_laid hL
  have hsz : (DataW.weightsEach Tryd.prog (Tryd.f3.params.toList ++ Rows.fnExactParseDeedSpec.plain.varTypes Tryd.prog) (ds ++ gs)).all (· ≤ reachBytes) = true := hsz0
  have hval : ∀ (j : Nat) t v, Tryd.f3.params[j]? = some t → args[j]? = some v → Value.okWide Tryd.prog W .any base t v := hval0
  have hW1 := hW
  obtain ⟨p, q, hA0, hV, rfl, hfz, hnd⟩ := hW
  have hA : DataW.TrodAll enc Tryd.prog W 0 (fun _ => true) true Tryd.f3.params.toList args.toList ds p := hA0
  rw [Tryd.params3] at hA hval hsz
  obtain ⟨v0, vs0, d0, ds0, p0, q0, hargs, rfl, rfl, h0, r0⟩ := trodAll_cons hA
  obtain ⟨rfl, rfl, rfl⟩ := trodAll_nil r0
  obtain rfl : args = #[v0] := by cases args; simp_all
  obtain ⟨rfl, rfl⟩ := trodVars_none hV
  obtain ⟨a0, t0, w0, e0, x0⟩ := open_arg Go.TL.open_str h0 (small_of hsz 0 rfl rfl) (hval 0 9 v0 rfl rfl) (fun _ => rfl) ⟨_, Go.TL.t9_ag⟩ (by first | exact fun _ _ => rfl | (intro h; rw [Go.TL.t9_ag] at h; cases h))
  simp only [outT, Go.TL.t9_ag, Option.some.injEq] at e0
  subst e0
  have hlt := hW1.lt
  clear hA0 hval0 hsz0 hsz
  refine ((Go.TL.laws_FnExactParseDeed a0 (by have := w0; omega)).lift W #[v0] hG rfl (fun i t hi => ?_)).mono fun e W1 ⟨he, bel⟩ => ?_
  · match i, hi with
    | 0, hi => cases hi; exact x0
    | i + 1, hi => simp at hi
  subst he
  exact ⟨_, rfl, _, _, _, [], _, [], hW1, trodAll_mk1 (shut_bool Tryd.underlying4 _), trodAll_below Go.TL.laid bel _ _ _ _ (by kernel_rfl) hA (fun x hx => hlt x (by simpa using hx)), rfl, bel.frame _, fun h => by cases h⟩
theorem over : Rows.fnExactParseDeedRow.holds Tryd.pinned (OpenSpec.ofChange Rows.fnExactParseDeedSpec) :=
  OpenClaim.holds_of_wide 3 Tryd.f3 rfl rfl rfl rfl rfl rfl rfl ⟨rfl, rfl, rfl, rfl, rfl⟩ rfl rfl rfl rfl rfl (by kernel_rfl) Tryd.func3 (by kernel_rfl)
    (of_decide_eq_true (by kernel_rfl)) (by unfold Func.isWrapper; first | (rw [if_pos (by decide +kernel)]; kernel_rfl) | (rw [if_neg (by decide +kernel)]; exact ⟨rfl, rfl⟩))
    (fun os started H enc _ => lifted os started H enc)
theorem proved : Rows.FnExactParseDeedCardSaid :=
  Claim7.holds_tied_plain_at .later [] [.data, .data, .data, .data, .sentinel, .sentinel, .pinned] true (true, "e6f0e7b9b574b48c479f7a68fdd436b3e9a5fd5fd74de52d3443f56e14f0f8d2") true
    over (fun _ h => by cases h) (by kernel_rfl) (fun _ h => by cases h) fnExactParseDeed_row_tie rfl ⟨rfl, rfl⟩ (by kernel_rfl) rfl
    (fun f fn hf hfn => by
      obtain rfl : f = 3 := Option.some.inj ((show Tryd.prog.funcNamed "loop.example/g00106/laws.FnExactParseDeed" = some 3 by kernel_rfl).symm.trans hf) |>.symm
      obtain rfl : fn = Tryd.f3 := (Option.some.inj (Tryd.func3.symm.trans hfn)).symm
      exact ⟨by kernel_rfl, fun j t ht => by
        rw [Tryd.params3] at ht
        have hm : t ∈ [9] := by simpa using Array.mem_of_getElem? ht
        have hall : ([9].all fun u => !Tryd.prog.wantsStandIn u) = true := by kernel_rfl
        exact (show Tryd.prog.wantsStandIn t = false by simpa using List.all_eq_true.1 hall t hm)⟩)
    (by kernel_rfl)
#print axioms proved
end Go.Proofs.YtneiifghegdfgaaDoor.fnExactParseDeed
namespace Go.Proofs.YtneiifghegdfgaaDoor
/-- The row, under a short name, for the claim. -/
theorem fnExactParseDeed_holds : Rows.FnExactParseDeedCardSaid := fnExactParseDeed.proved
end Go.Proofs.YtneiifghegdfgaaDoor
