/- Library functions by contracts that were proved elsewhere. No conditions. -/
import Derived.Test.YtkecbkljfpebhaaTSto
import Derived.Lib.Join
namespace Go.TL
set_option linter.unusedSimpArgs false
open Go.RowKit

/-- A world that holds what was there; more may lie behind it. -/
theorem Evo.old {E : Env} {w' : World} (hb : Below E.w.heap.size E.w w') : Evo E { E with w := w' } :=
  ⟨rfl, rfl, rfl, Nat.le_refl _, fun _ b h => ⟨⟨Nat.lt_of_lt_of_le h.1 hb.size, h.2.1, h.2.2⟩, hb.block b h.1⟩, fun _ _ _ cs' _ hx => ⟨⟨cs', hx⟩, rfl, fun arr _ _ ha => ⟨arr, (hb.block _ (Array.getElem?_eq_some_iff.1 ha).1).trans ha, rfl⟩⟩⟩
theorem Inv.old {E : Env} {w0 w' : World} (h : Inv E w0) (hb : Below E.w.heap.size E.w w') : Inv { E with w := w' } w0 := by
  have hB : E.B ≤ E.w.heap.size := Nat.le_trans h.hB.1 h.below.size
  have hs : Sized E.w w' := fun b a1 _ _ hh => ⟨a1, (hb.block b (Array.getElem?_eq_some_iff.1 hh).1).trans hh, rfl⟩
  refine ⟨h.below.trans ⟨hb.os, hb.tape, hb.output, hb.size, fun k hk => hb.block k (Nat.lt_of_lt_of_le hk hB)⟩, h.hB, h.hN, fun r p e cs hx => ?_, h.inj, h.frz⟩
  obtain ⟨arr, ty, mk, h1, h2, h3, h4, h5⟩ := h.blk r p e cs hx
  exact ⟨arr, ty, mk, (hb.block _ (Array.getElem?_eq_some_iff.1 h1).1).trans h1, h2, h3, h4, fun j c hj => (h5 j c hj).evo (Evo.old hb) hs (fun _ _ _ _ _ => rfl)⟩

/-- A contract of a library function that answers plain data and leaves what was there. -/
theorem CallsT.lib {P : Program} {g : FuncId} {fn : Func} {args : List T} {x : Value} (hf : P.funcs[g]? = some fn) (hb : fn.body.isSome = true) (hn : (fn.name == "runtime.NumGoroutine") = false)
    (h : ∀ (E : Env) (w0 : World) (vals : Array Value), Inv E w0 → vals.size = args.length → (∀ i t, args[i]? = some t → TR E t (vals.getD i undef)) →
      Calls P g vals E.w fun e w' => e = .returned x ∧ Below E.w.heap.size E.w w') : CallsT P [] g args (.v x) [] := by
  refine ⟨⟨fn, hf, hb, hn⟩, fun E w0 vals hS hI hsz ht => ?_⟩
  refine (h E w0 vals hI hsz ht).mono fun e w' ⟨he, hw⟩ => ?_
  exact ⟨x, { E with w := w' }, he, rfl, hS, hI.old hw, Evo.old hw, .v _⟩

end Go.TL
