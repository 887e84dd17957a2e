/- The row of the law FnLine. No conditions. -/
import Derived.Test.YtneiifghegdfgaaDoorRows
import Derived.Test.YtneiifghegdfgaaDoorCards
import Derived.Test.YtneiifghegdfgaaDoorTie
import Derived.Test.YtneiifghegdfgaaDoorNs
import Derived.Test.YtneiifghegdfgaaDoorJU9U11
import Derived.Test.YtneiifghegdfgaaDoorOp0
import Derived.Test.YtneiifghegdfgaaDoorGo
import Derived.WalkKit
import Derived.ProofKit
import Derived.OpenShut
import Derived.ShutString
import Derived.ChangeOld
import Derived.Below
import Derived.SizedLaws
import Derived.LaidMore
import Derived.LaidLaws
import Derived.Stop.LaidErr
import Derived.Lib.LaidTab
import Derived.SevenTiedAt
import Derived.Lay
import Derived.Stop.Joined
namespace Go.Proofs.YtneiifghegdfgaaDoor.fnLine
open Go.ChangeShapes Go.WideShapes Go.ChangeAt Go.RowKit
open Go.TL (open_arg outT small_of trodAll_below)
set_option linter.unusedVariables false
theorem own : ownKnob Tryd.prog.godebug = none := by kernel_rfl
set_option maxRecDepth 100000 in
theorem of_laid {W : World} (h : laidMetH Tryd.prog Rows.fnLineRow.laid W) : Go.TL.Gl W W.heap.size := by
  rw [MakeChecks.laidMetH_plain _ _ _ (by kernel_rfl)] at h
  first | exact Go.TL.gl_of_laid h | exact Go.TL.gl_of_laid6 h
set_option maxRecDepth 100000 in
theorem lifted (os : Os) (started : os.Started) (H : Type) (enc : TypeId × Value → H) :
    ReturnsInHanded {} Tryd.checked os 4 .any (fun w args => (Rows.fnLineSpec.pre enc Tryd.prog Tryd.f4 [] false w args ∧ laidMetH Tryd.prog Rows.fnLineRow.laid w) ∧ sizedMet enc Tryd.prog Tryd.f4 (OpenSpec.ofChange Rows.fnLineSpec) false w args) (Rows.fnLineSpec.post enc Tryd.prog Tryd.f4 false true false false) := by
  refine returnsInHanded_of_change_and (C := Tryd.checked) (X := fun w _ => laidMetH Tryd.prog Rows.fnLineRow.laid w) (fun _ _ _ hh h => h.of_heap hh) own started (by kernel_rfl) Tryd.func4
    (ChangeSpec.witness_shaped (enc := enc) (C := Tryd.checked) (os := os) (X := fun w _ => laidMetH Tryd.prog Rows.fnLineRow.laid w) false (World.laidAll Tryd.prog os Rows.fnLineRow.laid) #[.slice none 0 0] 8 (World.laidAll_os _ _ _) (World.shaped_of_ZipB (by kernel_rfl) (by kernel_rfl)) (by kernel_rfl) (by kernel_rfl) (by kernel_rfl) (by rw [MakeChecks.laidMetH_plain _ _ _ (by kernel_rfl)]; exact laidMet_laidAll _ (by kernel_rfl) (by kernel_rfl))) ?_
  intro W base args ds gs before hval0 hW hcnd hsz0 hL _
  have hG := of_laid hL
  have hsz : (DataW.weightsEach Tryd.prog (Tryd.f4.params.toList ++ Rows.fnLineSpec.plain.varTypes Tryd.prog) (ds ++ gs)).all (· ≤ reachBytes) = true := hsz0
  have hval : ∀ (j : Nat) t v, Tryd.f4.params[j]? = some t → args[j]? = some v → Value.okWide Tryd.prog W .any base t v := hval0
  have hW1 := hW
  obtain ⟨p, q, hA0, hV, rfl, hfz, hnd⟩ := hW
  have hA : DataW.TrodAll enc Tryd.prog W 0 (fun _ => true) true Tryd.f4.params.toList args.toList ds p := hA0
  rw [Tryd.params4] at hA hval hsz
  obtain ⟨v0, vs0, d0, ds0, p0, q0, hargs, rfl, rfl, h0, r0⟩ := trodAll_cons hA
  obtain ⟨rfl, rfl, rfl⟩ := trodAll_nil r0
  obtain rfl : args = #[v0] := by cases args; simp_all
  obtain ⟨rfl, rfl⟩ := trodVars_none hV
  obtain ⟨a0, t0, w0, e0, x0⟩ := open_arg Go.TL.open_bytes h0 (small_of hsz 0 rfl rfl) (hval 0 28 v0 rfl rfl) (fun _ => rfl) ⟨_, Go.TL.t28_ag⟩ (by first | exact fun _ _ => rfl | (intro h; rw [Go.TL.t28_ag] at h; cases h))
  simp only [outT, Go.TL.t28_ag, Option.some.injEq] at e0
  subst e0
  have hlt := hW1.lt
  clear hA0 hval0 hsz0 hsz
  refine ((Go.TL.laws_FnLine a0 ⟨fun x hx => Go.TL.wf_u8 (w0.2 x hx), by have := w0.1; omega⟩).lift W #[v0] hG rfl (fun i t hi => ?_)).mono fun e W1 ⟨he, bel⟩ => ?_
  · match i, hi with
    | 0, hi => cases hi; exact x0
    | i + 1, hi => simp at hi
  subst he
  exact ⟨_, rfl, _, _, _, [], _, [], hW1, trodAll_mk1 (shut_bool Tryd.underlying4 _), trodAll_below Go.TL.laid bel _ _ _ _ (by kernel_rfl) hA (fun x hx => hlt x (by simpa using hx)), rfl, bel.frame _, fun h => by cases h⟩
theorem over : Rows.fnLineRow.holds Tryd.pinned (OpenSpec.ofChange Rows.fnLineSpec) :=
  OpenClaim.holds_of_wide 4 Tryd.f4 rfl rfl rfl rfl rfl rfl rfl ⟨rfl, rfl, rfl, rfl, rfl⟩ rfl rfl rfl rfl rfl (by kernel_rfl) Tryd.func4 (by kernel_rfl)
    (of_decide_eq_true (by kernel_rfl)) (by unfold Func.isWrapper; first | (rw [if_pos (by decide +kernel)]; kernel_rfl) | (rw [if_neg (by decide +kernel)]; exact ⟨rfl, rfl⟩))
    (fun os started H enc _ => lifted os started H enc)
theorem proved : Rows.FnLineCardSaid :=
  Claim7.holds_tied_plain_at .later [] [.data, .data, .data, .data, .sentinel, .sentinel, .pinned] true (true, "e6f0e7b9b574b48c479f7a68fdd436b3e9a5fd5fd74de52d3443f56e14f0f8d2") true
    over (fun _ h => by cases h) (by kernel_rfl) (fun _ h => by cases h) fnLine_row_tie rfl ⟨rfl, rfl⟩ (by kernel_rfl) rfl
    (fun f fn hf hfn => by
      obtain rfl : f = 4 := Option.some.inj ((show Tryd.prog.funcNamed "loop.example/g00106/laws.FnLine" = some 4 by kernel_rfl).symm.trans hf) |>.symm
      obtain rfl : fn = Tryd.f4 := (Option.some.inj (Tryd.func4.symm.trans hfn)).symm
      exact ⟨by kernel_rfl, fun j t ht => by
        rw [Tryd.params4] at ht
        have hm : t ∈ [28] := by simpa using Array.mem_of_getElem? ht
        have hall : ([28].all fun u => !Tryd.prog.wantsStandIn u) = true := by kernel_rfl
        exact (show Tryd.prog.wantsStandIn t = false by simpa using List.all_eq_true.1 hall t hm)⟩)
    (by kernel_rfl)
#print axioms proved
end Go.Proofs.YtneiifghegdfgaaDoor.fnLine
namespace Go.Proofs.YtneiifghegdfgaaDoor
/-- The row, under a short name, for the claim. -/
theorem fnLine_holds : Rows.FnLineCardSaid := fnLine.proved
end Go.Proofs.YtneiifghegdfgaaDoor
