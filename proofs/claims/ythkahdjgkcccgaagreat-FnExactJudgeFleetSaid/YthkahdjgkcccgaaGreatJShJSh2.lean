/- Texts joined. No conditions but those that are written. -/
import Derived.Shelf.Strings.Builder1
import Derived.Shelf.Strings.OnBuilder
import Derived.Test.YthkahdjgkcccgaaGreatProg
import Derived.Test.YthkahdjgkcccgaaGreatNm
import Derived.Test.YthkahdjgkcccgaaGreatTLib
/- Contracts of the library, by the shelf, laid in plain words by the kit's tools. No conditions but those that are written. -/
namespace Go.Proofs
open Go.Shelf
def Tryz.lays156_ren : Go.Shelf.Ren := ⟨fun | 156 => 155 | 165 => 178 | 166 => 179 | 169 => 180 | 240 => 192 | 241 => 193 | 276 => 198 | 277 => 199 | n => n, fun | 31 => 107 | 9 => 9 | 3 => 3 | 4 => 4 | 0 => 0 | 20 => 20 | 72 => 216 | 76 => 220 | 70 => 214 | 37 => 164 | 75 => 219 | 127 => 235 | 164 => 242 | 5 => 5 | 80 => 222 | n => n, fun | n => n⟩
theorem Tryz.lays156 : Go.Proofs.Lays.n156 Tryz.prog Tryz.lays156_ren := {
  mixed := by kernel_rfl
  f156 := Tryz.func155.trans (congrArg some (by kernel_rfl))
  f165 := Tryz.func178.trans (congrArg some (by kernel_rfl))
  f166 := Tryz.func179.trans (congrArg some (by kernel_rfl))
  f169 := Tryz.func180.trans (congrArg some (by kernel_rfl))
  f240 := Tryz.func192.trans (congrArg some (by kernel_rfl))
  f241 := Tryz.func193.trans (congrArg some (by kernel_rfl))
  f276 := Tryz.func198.trans (congrArg some (by kernel_rfl))
  f277 := Tryz.func199.trans (congrArg some (by kernel_rfl))
  t0 := Tryz.underlying0
  a0 := Tryz.isAgg0
  z0 := Tryz.sizeOf0
  v0 := Tryz.zeroValue0
  t3 := Tryz.underlying3
  a3 := Tryz.isAgg3
  z3 := Tryz.sizeOf3
  v3 := Tryz.zeroValue3
  t4 := Tryz.underlying4
  a4 := Tryz.isAgg4
  z4 := Tryz.sizeOf4
  v4 := Tryz.zeroValue4
  t9 := Tryz.underlying9
  a9 := Tryz.isAgg9
  z9 := Tryz.sizeOf9
  v9 := Tryz.zeroValue9
  t20 := Tryz.underlying20
  a20 := Tryz.isAgg20
  z20 := Tryz.sizeOf20
  v20 := Tryz.zeroValue20
  t31 := Tryz.underlying107
  a31 := Tryz.isAgg107
  z31 := Tryz.sizeOf107
  v31 := Tryz.zeroValue107
  t37 := Tryz.underlying164
  a37 := Tryz.isAgg164
  z37 := Tryz.sizeOf164
  v37 := Tryz.zeroValue164
  t70 := Tryz.underlying214
  a70 := Tryz.isAgg214
  z70 := Tryz.sizeOf214
  v70 := Tryz.zeroValue214
  t72 := Tryz.underlying216
  a72 := Tryz.isAgg216
  z72 := Tryz.sizeOf216
  v72 := Tryz.zeroValue216
  t75 := Tryz.underlying219
  a75 := Tryz.isAgg219
  z75 := Tryz.sizeOf219
  v75 := Tryz.zeroValue219
  t76 := Tryz.underlying220
  a76 := Tryz.isAgg220
  z76 := Tryz.sizeOf220
  v76 := Tryz.zeroValue220
  t127 := Tryz.underlying235
  a127 := Tryz.isAgg235
  z127 := Tryz.sizeOf235
  v127 := Tryz.zeroValue235
  t164 := Tryz.underlying242
  a164 := Tryz.isAgg242
  z164 := Tryz.sizeOf242
  v164 := Tryz.zeroValue242 }
theorem Tryz.Builder_Extra_156 : Builder.Extra Tryz.prog Tryz.lays156_ren := {
  sizeBuilder := by kernel_rfl
  liesBuilder := by kernel_rfl
  t5 := Tryz.underlying5
  a5 := Tryz.isAgg5
  z5 := Tryz.sizeOf5
  v5 := Tryz.zeroValue5
  infoByte := by kernel_rfl
  cellsByte := by kernel_rfl
  sizeByte := by kernel_rfl
  neB5 := by decide }
open Go.RowKit in
theorem Tryz.strings_Join_none (a : Option Addr) (c : Nat) (sep : ByteArray) (w : World) :
    Calls Tryz.prog 155 #[.slice a 0 c, .string sep] w fun e w' => e = .returned (.string ⟨#[]⟩) ∧ w' = w := Any.strings_Join_none Tryz.lays156 Tryz.Builder_Extra_156 a c sep w
open Go.RowKit in
theorem Tryz.strings_Join (bk o c : Nat) (xs : List ByteArray) (sep : ByteArray) (w : World) (hcells : ∀ (j : Nat) x, xs[j]? = some x → w.cell? ⟨bk, o + j, none⟩ = some (.string x)) (hbk : bk < w.heap.size) (hN : xs.length ≤ 140737488355328) (hcap : xs.length ≤ c) (hlen : (Lib.join (xs.map (·.data.toList)) sep.data.toList).length ≤ 140737488355328) :
    Calls Tryz.prog 155 #[.slice (some ⟨bk, o, none⟩) xs.length c, .string sep] w fun e w' => e = .returned (.string ⟨(Lib.join (xs.map (·.data.toList)) sep.data.toList).toArray⟩) ∧ Below w.heap.size w w' := Any.strings_Join Tryz.lays156 Tryz.Builder_Extra_156 bk o c xs sep w hcells hbk hN hcap hlen
end Go.Proofs


/- strings.Join on trees, by the shelf's contract. No conditions but those that are written. -/
namespace Go.TL
set_option linter.unusedSimpArgs false
open Go.Proofs Go.RowKit
attribute [local irreducible] wpOpsT wpT EndT Ex.seq Ex.block W

theorem strRow : ∀ l : List ByteArray, rowT strC l = l.map fun x => T.v (.string x)
  | [] => rfl
  | x :: l => by rw [rowT_cons, strRow l]; rfl
/-- Texts one behind the other, with a text between. -/
def joinB (l : List ByteArray) (sep : ByteArray) : ByteArray := ⟨(Lib.join (l.map (·.data.toList)) sep.data.toList).toArray⟩
def joinLen (l : List ByteArray) (sep : ByteArray) : Nat := (Lib.join (l.map (·.data.toList)) sep.data.toList).length
theorem strings_Join (k : Nat) (l : List ByteArray) (sep : ByteArray) (hlen : joinLen l sep ≤ 140737488355328) (hN : l.length ≤ 140737488355328) : CallsT Tryz.prog [] F.strings_Join [.sl false k l.length 1 (rowT strC l), .v (.string sep)] (.v (.string (joinB l sep))) [] := by
  refine CallsT.lib C.strings_Join (by kernel_rfl) (by decide +kernel) fun E w0 vals hI hsz ht => ?_
  have h0 := ht 0 _ rfl
  have h1 := ht 1 _ rfl
  match vals, hsz with
  | ⟨[v0, v1]⟩, _ =>
    have h1 : TR E (.v (.string sep)) v1 := h1
    have h0 : TR E (.sl false k l.length 1 (rowT strC l)) v0 := h0
    cases h1
    cases h0 with
    | sl h =>
      cases h with
      | sl b off f hn hc ha hcell hrec =>
        rcases ha with ha | ⟨rfl, hok⟩
        · have hl : l.length = 0 := by
            have := congrArg List.length ha
            rw [len_row] at this
            simpa using this
          obtain rfl := List.eq_nil_of_length_eq_zero hl
          refine (Tryz.strings_Join_none _ _ sep E.w).mono fun e w' h => ?_
          exact ⟨h.1, by rw [h.2]; exact Below.refl _ _⟩
        · refine Tryz.strings_Join b off _ l sep E.w (fun j x hx => ?_) hok.1 hN hc hlen
          have hj : (rowT strC l)[j]? = some (.v (.string x)) := by
            rw [strRow, List.getElem?_map, hx]; rfl
          rw [hcell j _ hj, FzR.v_eq (hrec j _ hj)]

end Go.TL
