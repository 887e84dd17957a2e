/- append on trees. No conditions. -/
import Derived.Test.YtdnclbghhdflmaaTStore
import Derived.Laws.AppendOwn
namespace Go.TL
open Go.RowKit

theorem Wrote.refl (w : World) (b : Nat) : Wrote w w b := ⟨rfl, rfl, rfl, rfl, fun _ _ => rfl, fun arr _ _ h => ⟨arr, h, rfl⟩⟩

theorem setCells_wrote (g : Nat) (ty : TypeId) (mk : Nat × Nat) : ∀ (vs : List Value) (o : Nat) (w : World) (arr : Array Value), w.heap[g]? = some (.cells arr ty mk) → o + vs.length ≤ arr.size →
    Wrote w (w.setCells g o vs) g ∧ ∃ arr' : Array Value, (w.setCells g o vs).heap[g]? = some (.cells arr' ty mk) ∧ arr'.size = arr.size ∧ (∀ j, j < o → arr'.getD j undef = arr.getD j undef) ∧ (∀ j, j < vs.length → arr'.getD (o + j) undef = vs.getD j undef)
  | [], o, w, arr, h, _ => ⟨Wrote.refl _ _, arr, h, rfl, fun _ _ => rfl, fun j hj => by simp at hj⟩
  | v :: vs, o, w, arr, h, hl => by
    simp only [List.length_cons] at hl
    obtain ⟨h1, arr', h2, h3, h4, h5⟩ := setCells_wrote g ty mk vs (o + 1) (w.setCell ⟨g, o, none⟩ v) (arr.setIfInBounds o v) (heap_setCell_same h) (by simp; omega)
    refine ⟨Wrote.setCell.trans h1, arr', h2, by rw [h3]; simp, fun j hj => ?_, fun j hj => ?_⟩
    · rw [h4 j (by omega), Array.getD_eq_getD_getElem?, Array.getElem?_setIfInBounds_ne (by omega), ← Array.getD_eq_getD_getElem?]
    · cases j with
      | zero =>
        rw [Nat.add_zero, h4 o (by omega), Array.getD_eq_getD_getElem?, Array.getElem?_setIfInBounds_self_of_lt (by omega)]
        rfl
      | succ j =>
        have := h5 j (by simpa using hj)
        rw [show o + (j + 1) = o + 1 + j by omega, this]
        simp

def notInt (P : Program) (t : TypeId) : Bool :=
  match P.underlying t with
  | some (.slice _) => true
  | some .string => true
  | _ => false

/-- What stands behind an append: the row that has it, where it lies. -/
structure Appended (w w' : World) (g0 : Option Nat) (e : TypeId) (sz need : Nat) (xs news : List Value) (v : Value) : Prop where
  row : ∃ g cap arr ty mk, v = .slice (some ⟨g, 0, none⟩) need cap ∧ w'.heap[g]? = some (.cells arr ty mk) ∧ MkOk mk arr.size ∧ need ≤ cap ∧ cap * sz ≤ arr.size ∧
    (∀ j, j < xs.length → arr.getD j undef = xs.getD j undef) ∧ (∀ j, j < news.length → arr.getD (xs.length + j) undef = news.getD j undef) ∧
    ((g0 = some g ∧ Wrote w w' g) ∨ (g = w.heap.size ∧ Made w w' arr ty mk))

theorem append_in {P : Program} {t ty2 oty e : TypeId} {sz : Nat} (ht : elemT P t = some e) (hsz : szT P e = some sz) (h2 : notInt P ty2 = true) {w : World} {g n cap : Nat} {arr : Array Value} {ty : TypeId} {mk : Nat × Nat}
    (hg : w.heap[g]? = some (.cells arr ty mk)) (hmk : MkOk mk arr.size) (hcap : cap * sz ≤ arr.size) {y : Value} {m : Nat} {news : List Value} (hy : (Builtin.lenOf y).run P w = .ok m w)
    (hnews : news.length = m * sz) (h1 : ∀ u ∈ news, u.oneCell' = true) (hfirst : (Builtin.firstCells sz m y).run P w = .ok news.toArray w) (hroom : n + m ≤ cap) :
    (Builtin.append_ #[t, ty2] oty #[.slice (some ⟨g, 0, none⟩) n cap, y]).run P w = .ok (.slice (some ⟨g, 0, none⟩) (n + m) cap) (w.setCells g (n * sz) news) := by
  have hu := elemT_run ht
  have hle : n * sz + news.length ≤ arr.size := by
    rw [hnews, ← Nat.add_mul]
    exact Nat.le_trans (Nat.mul_le_mul_right _ hroom) hcap
  have hst := run_storeCells_cells (P := P) g (n * sz) news 0 w (fun j hj => by
      rw [cell_of_row _ _ _ _ _ _ hg, Array.getElem?_eq_getElem (by omega)]; rfl) (fun j hj => by
      have := hmk (n * sz + 0 + j) (by omega)
      simp only [World.frozen?, hg]
      rw [Bool.eq_false_iff]
      intro hh
      simp only [Bool.and_eq_true, decide_eq_true_eq] at hh
      exact this hh) h1
  simp only [Nat.add_zero] at hst
  have hd : (∃ x, P.underlying ty2 = some (.slice x)) ∨ P.underlying ty2 = some .string := by
    unfold notInt at h2
    split at h2
    · rename_i hh; exact .inl ⟨_, hh⟩
    · rename_i hh; exact .inr hh
    · cases h2
  rcases hd with ⟨d, hd1⟩ | hd1 <;> simp [Builtin.append_, run_underlying hu, run_underlying hd1, szT_run hsz, hy, hroom, hfirst, addr_add, hst]

theorem append_out {P : Program} {t ty2 oty e : TypeId} {sz bs : Nat} (ht : elemT P t = some e) (hsz : szT P e = some sz) (hbs : bytesT P e = some bs) (h2 : notInt P ty2 = true) {z : Value} (hz : ∀ w, (zeroValue e).run P w = .ok z w)
    {w : World} {A : Option Addr} {n cap : Nat} {xs : List Value} (hxs : (Builtin.firstCells sz n (.slice A n cap)).run P w.drew = .ok xs.toArray w.drew) {y : Value} {m : Nat} {news : List Value} (hy : (Builtin.lenOf y).run P w = .ok m w)
    (hfirst : (Builtin.firstCells sz m y).run P w.drew = .ok news.toArray w.drew) (hroom : cap < n + m) (hbound : (n + m) * bs ≤ 140737488355328) (hmax : n + m < 2 ^ 63) :
    (Builtin.append_ #[t, ty2] oty #[.slice A n cap, y]).run P w = .ok (.slice (some ⟨w.heap.size, 0, none⟩) (n + m) (grownCap w (n + m) cap e)) (w.drew.alloc (.cells (xs.toArray ++ (news.toArray ++ Builtin.zeroCells z.cells (grownCap w (n + m) cap e - (n + m)))) e)) := by
  have hu := elemT_run ht
  obtain ⟨i, hi, hbi⟩ := Option.map_eq_some_iff.1 hbs
  have hd : (∃ x, P.underlying ty2 = some (.slice x)) ∨ P.underlying ty2 = some .string := by
    unfold notInt at h2
    split at h2
    · rename_i hh; exact .inl ⟨_, hh⟩
    · rename_i hh; exact .inr hh
    · cases h2
  have hr : ¬ (n + m ≤ cap) := by omega
  have hg := growslice_fits (need := n + m) (old := cap) (bytes := bs) hroom hbound
  have hmx : ¬ ((9223372036854775807 : Int) < ((n + m : Nat) : Int)) := by omega
  have hmx2 : ¬ ((9223372036854775807 : Int) < (n : Int) + (m : Int)) := by omega
  have hg' : ¬ (281474976710656 < Builtin.nextslicecap (n + m) cap * bs) := by omega
  rcases hd with ⟨d, hd1⟩ | hd1 <;> simp [Builtin.append_, run_underlying hu, run_underlying hd1, szT_run hsz, hy, hr, hmx2, typeInfo, hi, hbi, hg', Question.forced, hxs, hfirst, hz, newRow, grownCap]

end Go.TL
