/- strings.Join on trees, by the shelf's contract. No conditions but those that are written. -/
import Derived.Test.YtekohallfeebeaaGreatShJ
import Derived.Test.YtekohallfeebeaaGreatNm
import Derived.Test.YtekohallfeebeaaGreatTLib
namespace Go.TL
open Go.Proofs Go.RowKit
attribute [local irreducible] wpOpsT wpT EndT Ex.seq Ex.block W

theorem strRow : ∀ l : List ByteArray, rowT strC l = l.map fun x => T.v (.string x)
  | [] => rfl
  | x :: l => by rw [rowT_cons, strRow l]; rfl
/-- Texts one behind the other, with a text between. -/
def joinB (l : List ByteArray) (sep : ByteArray) : ByteArray := ⟨(Lib.join (l.map (·.data.toList)) sep.data.toList).toArray⟩
def joinLen (l : List ByteArray) (sep : ByteArray) : Nat := (Lib.join (l.map (·.data.toList)) sep.data.toList).length
theorem strings_Join (k : Nat) (l : List ByteArray) (sep : ByteArray) (hlen : joinLen l sep ≤ 140737488355328) (hN : l.length ≤ 140737488355328) : CallsT Tryz.prog [] F.strings_Join [.sl false k l.length 1 (rowT strC l), .v (.string sep)] (.v (.string (joinB l sep))) [] := by
  refine CallsT.lib C.strings_Join (by kernel_rfl) (by decide +kernel) fun E w0 vals hI hsz ht => ?_
  have h0 := ht 0 _ rfl
  have h1 := ht 1 _ rfl
  match vals, hsz with
  | ⟨[v0, v1]⟩, _ =>
    have h1 : TR E (.v (.string sep)) v1 := h1
    have h0 : TR E (.sl false k l.length 1 (rowT strC l)) v0 := h0
    cases h1
    cases h0 with
    | sl h =>
      cases h with
      | sl b off f hn hc ha hcell hrec =>
        rcases ha with ha | ⟨rfl, hok⟩
        · have hl : l.length = 0 := by
            have := congrArg List.length ha
            rw [len_row] at this
            simpa using this
          obtain rfl := List.eq_nil_of_length_eq_zero hl
          refine (Tryz.strings_Join_none _ _ sep E.w).mono fun e w' h => ?_
          exact ⟨h.1, by rw [h.2]; exact Below.refl _ _⟩
        · refine Tryz.strings_Join b off _ l sep E.w (fun j x hx => ?_) hok.1 hN hc hlen
          have hj : (rowT strC l)[j]? = some (.v (.string x)) := by
            rw [strRow, List.getElem?_map, hx]; rfl
          rw [hcell j _ hj, FzR.v_eq (hrec j _ hj)]

end Go.TL
