/- Texts joined. No conditions but those that are written. -/
import Derived.Test.YtneiifghegdfgaaJP2P3
import Derived.Test.YtneiifghegdfgaaTOpq
import Derived.Test.YtneiifghegdfgaaF0
import Derived.Test.YtneiifghegdfgaaTLm
/- Helds whose parts are not looked into: lists of them are moved. No conditions but those that are written. -/
namespace Go.TL
set_option linter.unusedSimpArgs false
open Go.Proofs Go.RowKit
attribute [local irreducible] wpOpsT wpT EndT Ex.seq Ex.block W

/-- A value of one cell. -/
structure OneV where
  val : Value
  ok : val.oneCell' = true
instance : Inhabited OneV := ⟨⟨.bool false, rfl⟩⟩
structure QV where
  rel : Int
  size : Int
  dig : ByteArray
  p : OneV
instance : Inhabited QV := ⟨⟨0, 0, ⟨#[]⟩, default⟩⟩
def qC (x : QV) : List T := [.v (.int .i64 x.rel), .v (.int .i64 x.size), .v (.string x.dig), .v x.p.val]
theorem qE : Enc qC 4 := ⟨fun _ => rfl, fun x => by simp only [qC, List.all_cons, List.all_nil, plainC, x.p.ok]; rfl⟩
instance : RowE qC 4 := ⟨qE⟩
instance : RowF qC := ⟨fun _ => rfl⟩
instance : RowV qC := ⟨fun _ => rfl⟩
attribute [go_sem] qC
@[go_sem] theorem one_ok (x : OneV) : x.val.oneCell' = true := x.ok

def qof (V : Nat → Value) (hV : ∀ j, (V j).oneCell' = true) (l : List HeldV) : List QV := l.mapIdx fun i x => ⟨x.rel, x.size, x.dig, ⟨V (4 * i + 3), hV _⟩⟩
theorem qof_length (V : Nat → Value) (hV : ∀ j, (V j).oneCell' = true) (l : List HeldV) : (qof V hV l).length = l.length := by simp [qof]
theorem opqC_own (v : Value) (n e : Nat) (cs : List T) : opqC v (ownC n e cs) = .v v := by
  rcases Nat.eq_zero_or_pos n with h | h
  · subst h
    unfold ownC ownB
    split <;> rfl
  · rw [ownC_pos _ _ (by omega)]; rfl
theorem opq_row : ∀ (l : List HeldV) (V : Nat → Value) (hV : ∀ j, (V j).oneCell' = true), opqL V (rowT heldO l) = rowT qC (qof V hV l)
  | [], _, _ => rfl
  | x :: l, V, hV => by
    have ih := opq_row l (fun j => V (4 + j)) (fun j => hV _)
    rw [rowT_cons]
    unfold opqL at ih ⊢
    rw [List.mapIdx_append]
    have e1 : (heldO x).mapIdx (fun j c => opqC (V j) c) = qC ⟨x.rel, x.size, x.dig, ⟨V 3, hV 3⟩⟩ := by
      show [opqC (V 0) _, opqC (V 1) _, opqC (V 2) _, opqC (V 3) (ownC x.parts.length 1 (rowT strC x.parts))] = _
      rw [opqC_own]; rfl
    have e2 : (rowT heldO l).mapIdx (fun j c => opqC (V (j + (heldO x).length)) c) = rowT qC (qof (fun j => V (4 + j)) (fun j => hV _) l) := by
      rw [← ih]
      congr 1
      funext j c
      rw [show j + (heldO x).length = 4 + j by show j + 4 = 4 + j; omega]
    rw [e1, e2]
    have e3 : qof V hV (x :: l) = ⟨x.rel, x.size, x.dig, ⟨V 3, hV 3⟩⟩ :: qof (fun j => V (4 + j)) (fun j => hV _) l := by
      unfold qof
      rw [List.mapIdx_cons]
      congr 1
      congr 1
      funext i y
      congr 2
      simp only [OneV.mk.injEq]
      congr 1
      omega
    rw [e3, rowT_cons]
theorem qof_nth (V : Nat → Value) (hV : ∀ j, (V j).oneCell' = true) {l : List HeldV} {i : Nat} (h : i < l.length) : nth (qof V hV l) (i : Nat) = ⟨(nth l (i : Nat)).rel, (nth l (i : Nat)).size, (nth l (i : Nat)).dig, ⟨V (4 * i + 3), hV _⟩⟩ := by
  rw [nth_nat (by rw [qof_length]; exact h), nth_nat h]
  simp [qof]

/-- The cells of a thing. -/
def idx4 (s : Nat × Nat) : List (Nat × Nat) := [(s.1, 4 * s.2), (s.1, 4 * s.2 + 1), (s.1, 4 * s.2 + 2), (s.1, 4 * s.2 + 3)]
def cells4 (J : List (Nat × Nat)) : List (Nat × Nat) := J.flatMap idx4
theorem mem4 {s x : Nat × Nat} (h : x ∈ idx4 s) : x.1 = s.1 ∧ 4 * s.2 ≤ x.2 ∧ x.2 < 4 * s.2 + 4 := by
  simp only [idx4, List.mem_cons, List.not_mem_nil, or_false] at h
  rcases h with rfl | rfl | rfl | rfl <;> exact ⟨rfl, by dsimp only; omega, by dsimp only; omega⟩
theorem nodup4 {J : List (Nat × Nat)} (h : J.Nodup) : (cells4 J).Nodup := by
  unfold cells4 List.Nodup
  rw [List.pairwise_flatMap]
  refine ⟨fun s _ => ?_, List.Pairwise.imp (fun {s t} hst x hx y hy e => ?_) h⟩
  · simp [idx4]
  · obtain ⟨h1, h2, h3⟩ := mem4 hx
    obtain ⟨k1, k2, k3⟩ := mem4 hy
    subst e
    exact hst (Prod.ext (h1.symm.trans k1) (by omega))
section
variable {S : Store} {ls : Nat → List HeldV} {J : List (Nat × Nat)}
theorem row4_at {l : List HeldV} {i t : Nat} (h : i < l.length) (ht : t < 4) : (rowT heldO l)[4 * i + t]? = (heldO (nth l (i : Nat)))[t]? := by
  rw [row_split (enc := heldO) l i h, show 4 * i + t = (l.take i).length * 4 + t by rw [List.length_take]; omega, at_row' (enc := heldO) (l.take i) _ t]
  rw [List.getElem?_append_left (by show t < 4; exact ht)]
theorem valid4 (hS : ∀ s ∈ J, S[s.1]? = some ⟨4, true, rowT heldO (ls s.1)⟩ ∧ s.2 < (ls s.1).length) : ∀ s ∈ cells4 J, ∃ x : Root, S[s.1]? = some x ∧ x.live = true ∧ s.2 < x.cs.length := fun x hx => by
  obtain ⟨s, hs, hx⟩ := List.mem_flatMap.1 hx
  obtain ⟨h1, h2, h3⟩ := mem4 hx
  obtain ⟨k1, k2⟩ := hS s hs
  exact ⟨_, by rw [h1]; exact k1, rfl, by show x.2 < (rowT heldO (ls s.1)).length; rw [len_rowO]; omega⟩
theorem pick4 (hS : ∀ s ∈ J, S[s.1]? = some ⟨4, true, rowT heldO (ls s.1)⟩ ∧ s.2 < (ls s.1).length) : (cells4 J).map (qpick S) = rowT heldO (J.map fun s => nth (ls s.1) (s.2 : Nat)) := by
  induction J with
  | nil => rfl
  | cons s J ih =>
    obtain ⟨k1, k2⟩ := hS s (.head _)
    have ih := ih fun x hx => hS x (.tail _ hx)
    unfold cells4 at ih ⊢
    rw [List.flatMap_cons, List.map_append, ih, List.map_cons, rowT_cons]
    congr 1
    have q : ∀ t, t < 4 → qpick S (s.1, 4 * s.2 + t) = ((heldO (nth (ls s.1) (s.2 : Nat)))[t]?).getD .dead := fun t ht => by
      unfold qpick
      rw [k1]
      show ((rowT heldO (ls s.1))[4 * s.2 + t]?).getD .dead = _
      rw [row4_at k2 ht]
    have q0 := q 0 (by decide)
    have q1 := q 1 (by decide)
    have q2 := q 2 (by decide)
    have q3 := q 3 (by decide)
    rw [Nat.add_zero] at q0
    simp only [idx4, List.map_cons, List.map_nil, q0, q1, q2, q3]
    rfl
theorem opq4 {V : Nat → Nat → Value} (hV : ∀ r j, (V r j).oneCell' = true) (hS : ∀ s ∈ J, S[s.1]? = some ⟨4, true, rowT heldO (ls s.1)⟩ ∧ s.2 < (ls s.1).length) :
    (cells4 J).map (fun s => opqC (V s.1 s.2) (qpick S s)) = rowT qC (J.map fun s => nth (qof (V s.1) (hV s.1) (ls s.1)) (s.2 : Nat)) := by
  induction J with
  | nil => rfl
  | cons s J ih =>
    obtain ⟨k1, k2⟩ := hS s (.head _)
    have ih := ih fun x hx => hS x (.tail _ hx)
    unfold cells4 at ih ⊢
    rw [List.flatMap_cons, List.map_append, ih, List.map_cons, rowT_cons]
    congr 1
    have q : ∀ t, t < 4 → qpick S (s.1, 4 * s.2 + t) = ((heldO (nth (ls s.1) (s.2 : Nat)))[t]?).getD .dead := fun t ht => by
      unfold qpick
      rw [k1]
      show ((rowT heldO (ls s.1))[4 * s.2 + t]?).getD .dead = _
      rw [row4_at k2 ht]
    have q0 := q 0 (by decide)
    have q1 := q 1 (by decide)
    have q2 := q 2 (by decide)
    have q3 := q 3 (by decide)
    rw [Nat.add_zero] at q0
    rw [qof_nth (V s.1) (hV s.1) k2]
    simp only [idx4, List.map_cons, List.map_nil, q0, q1, q2, q3]
    show [_, _, _, opqC (V s.1 (4 * s.2 + 3)) (ownC _ _ _)] = _
    rw [opqC_own]
    rfl
end
theorem plain_heldO (l : List HeldV) : ∀ c ∈ rowT heldO l, PlainO c := fun c hc => by
  unfold rowT at hc
  obtain ⟨x, _, hc⟩ := List.mem_flatMap.1 hc
  simp only [heldO, List.mem_cons, List.not_mem_nil, or_false] at hc
  rcases hc with rfl | rfl | rfl | rfl
  · exact .v _
  · exact .v _
  · exact .v _
  · rcases Nat.eq_zero_or_pos x.parts.length with h | h
    · have : x.parts = [] := List.eq_nil_of_length_eq_zero h
      rw [this]
      rw [show ownC ([] : List ByteArray).length 1 (rowT strC []) = .sl false 0 0 1 [] from ownC_nil _ _]
      exact .nil _ _ _
    · rw [ownC_pos _ _ (by omega)]; exact .own _ _ _ _

end Go.TL

/- Helds whose parts are not looked into: those of a release are struck from a list. No conditions but those that are written. -/
namespace Go.TL
set_option linter.unusedSimpArgs false
open Go.Proofs Go.RowKit
attribute [local irreducible] wpOpsT wpT EndT Ex.seq Ex.block W

section
variable {P : Program} {n : Nat} {S S2 : Store} {fr : Nat → T} {ops : Array Oper} {ty : TypeId} {pos : String} {aft : Array Edge} {rest : List Oper} {K : (Nat → T) → Store → Prop} {t e : TypeId} {x : Operand} {α : Type} {enc : α → List T} {sz : Nat}
/-- The end of a row of one's own is cleared. -/
theorem r_clr {pu pu' : Dr} {gd : Option (Nat × Bool)} [he : RowE enc sz] (a b : List α) {r off m : Nat} {zs : List T} (h : wpOpsT P ops n pu' rest K fr S2)
    (hw : wantedT ops fr ⟨none, .call ⟨.builtin .clear, #[x], #[t]⟩, ty, pos, aft, gd⟩ = some true := by rfl) (hc : calleeT fr ⟨none, .call ⟨.builtin .clear, #[x], #[t]⟩, ty, pos, aft, gd⟩ = none := by rfl)
    (hx : TL.ev fr x = .ref r [] off m := by (first | (simp only [go_sem, ↓reduceIte, Nat.reduceEqDiff, Nat.reduceMul, Nat.reduceAdd, Nat.reduceSub, Nat.reduceLT, Nat.reduceGT, Nat.reduceLeDiff, Nat.reduceBEq, Int.reduceLT, Int.reduceLE, Int.reduceNe, Int.reduceEq, Int.reduceToNat, Int.reduceAdd, Int.reduceSub, Int.reduceMul, Int.reduceNeg, Nat.reducePow, Int.reducePow, Nat.reduceSubDiff, decide_true, decide_false, reduceCtorEq, or_self, or_false, false_or, or_true, true_or, if_false, gt_iff_lt, ge_iff_le, ne_eq, not_true_eq_false, not_false_eq_true, and_self, beq_self_eq_true, Bool.false_eq_true] <;> with_reducible rfl) | with_reducible rfl)) (ho : off = a.length * sz := by first | rfl | omega)
    (hm : m = b.length := by first | rfl | omega) (h0 : 0 < m := by omega)
    (hat : S.at false r [] = some (sz, rowT enc (a ++ b)) := by (first | (simp only [go_sem, ↓reduceIte, Nat.reduceEqDiff, Nat.reduceMul, Nat.reduceAdd, Nat.reduceSub, Nat.reduceLT, Nat.reduceGT, Nat.reduceLeDiff, Nat.reduceBEq, Int.reduceLT, Int.reduceLE, Int.reduceNe, Int.reduceEq, Int.reduceToNat, Int.reduceAdd, Int.reduceSub, Int.reduceMul, Int.reduceNeg, Nat.reducePow, Int.reducePow, Nat.reduceSubDiff, decide_true, decide_false, reduceCtorEq, or_self, or_false, false_or, or_true, true_or, if_false, gt_iff_lt, ge_iff_le, ne_eq, not_true_eq_false, not_false_eq_true, and_self, beq_self_eq_true, Bool.false_eq_true] <;> with_reducible rfl) | with_reducible rfl)) (hel : elemT P t = some e := by (first | (simp only [go_sem, ↓reduceIte, Nat.reduceEqDiff, Nat.reduceMul, Nat.reduceAdd, Nat.reduceSub, Nat.reduceLT, Nat.reduceGT, Nat.reduceLeDiff, Nat.reduceBEq, Int.reduceLT, Int.reduceLE, Int.reduceNe, Int.reduceEq, Int.reduceToNat, Int.reduceAdd, Int.reduceSub, Int.reduceMul, Int.reduceNeg, Nat.reducePow, Int.reducePow, Nat.reduceSubDiff, decide_true, decide_false, reduceCtorEq, or_self, or_false, false_or, or_true, true_or, if_false, gt_iff_lt, ge_iff_le, ne_eq, not_true_eq_false, not_false_eq_true, and_self, beq_self_eq_true, Bool.false_eq_true] <;> with_reducible rfl) | with_reducible rfl)) (hz : zeroT P e = some zs := by (first | (simp only [go_sem, ↓reduceIte, Nat.reduceEqDiff, Nat.reduceMul, Nat.reduceAdd, Nat.reduceSub, Nat.reduceLT, Nat.reduceGT, Nat.reduceLeDiff, Nat.reduceBEq, Int.reduceLT, Int.reduceLE, Int.reduceNe, Int.reduceEq, Int.reduceToNat, Int.reduceAdd, Int.reduceSub, Int.reduceMul, Int.reduceNeg, Nat.reducePow, Int.reducePow, Nat.reduceSubDiff, decide_true, decide_false, reduceCtorEq, or_self, or_false, false_or, or_true, true_or, if_false, gt_iff_lt, ge_iff_le, ne_eq, not_true_eq_false, not_false_eq_true, and_self, beq_self_eq_true, Bool.false_eq_true] <;> with_reducible rfl) | with_reducible rfl)) (hzl : zs.length = sz := by rfl)
    (hS : S.upd r [] (fun _ => rowT enc a ++ zeroR zs m) = S2 := by (first | (simp only [go_sem, ↓reduceIte, Nat.reduceEqDiff, Nat.reduceMul, Nat.reduceAdd, Nat.reduceSub, Nat.reduceLT, Nat.reduceGT, Nat.reduceLeDiff, Nat.reduceBEq, Int.reduceLT, Int.reduceLE, Int.reduceNe, Int.reduceEq, Int.reduceToNat, Int.reduceAdd, Int.reduceSub, Int.reduceMul, Int.reduceNeg, Nat.reducePow, Int.reducePow, Nat.reduceSubDiff, decide_true, decide_false, reduceCtorEq, or_self, or_false, false_or, or_true, true_or, if_false, gt_iff_lt, ge_iff_le, ne_eq, not_true_eq_false, not_false_eq_true, and_self, beq_self_eq_true, Bool.false_eq_true] <;> with_reducible rfl) | with_reducible rfl))
    (hp : Dr.step P ops n pu fr S ⟨none, .call ⟨.builtin .clear, #[x], #[t]⟩, ty, pos, aft, gd⟩ (.v (.tuple #[])) S2 pu' := by first | exact Dr.step.txt | exact dr_chain) :
    wpOpsT P ops n pu (⟨none, .call ⟨.builtin .clear, #[x], #[t]⟩, ty, pos, aft, gd⟩ :: rest) K fr S := by
  refine r_op (opT_do hw rfl hc (t := .v (.tuple #[])) (S' := S2) ?_) hp h
  show builtinT P S fr .clear [x] [t] = _
  rw [s_clear]
  unfold clearT
  rw [hel, hx]
  dsimp only
  rw [hz]
  dsimp only
  rw [hat]
  dsimp only
  have hl : (rowT enc (a ++ b)).length = (a.length + b.length) * sz := by rw [len_row, List.length_append]
  have hle : off + m * zs.length ≤ (rowT enc (a ++ b)).length := by rw [hl, hzl, ho, hm, Nat.add_mul]; exact Nat.le_refl _
  rw [if_pos ⟨h0, hle⟩, ← hS]
  congr 2
  unfold Store.at at hat
  unfold Store.upd
  cases hr : S[r]? with
  | none => simp [hr] at hat
  | some z =>
    rw [hr] at hat
    dsimp only at hat ⊢
    split at hat
    · simp only [cellsAt, Option.some.injEq, Prod.mk.injEq] at hat
      congr 2
      simp only [updAt]
      have h3 := setR_0 [] (zeroR zs m) (rowT enc a) (rowT enc b) (by rw [zeroR_length, len_row, hzl, hm])
      rw [List.append_nil, len_row, List.append_nil] at h3
      rw [hat.2, rowT_append, ho]
      exact h3
    · cases hat
end

theorem get_q {l : List QV} {j : Nat} (h : j < l.length) : (rowT qC l)[j * 4]? = some (.v (.int .i64 ((nth l (j : Nat)).rel))) ∧ (rowT qC l)[j * 4 + 1]? = some (.v (.int .i64 ((nth l (j : Nat)).size))) ∧ (rowT qC l)[j * 4 + 2]? = some (.v (.string ((nth l (j : Nat)).dig))) ∧ (rowT qC l)[j * 4 + 3]? = some (.v (nth l (j : Nat)).p.val) := by
  have c : ∀ t, t < 4 → (rowT qC l)[j * 4 + t]? = (qC (nth l (j : Nat)))[t]? := fun t ht => row_cell (enc := qC) (l := l) (x := (j : Nat)) t h ht
  exact ⟨c 0 (by decide), c 1 (by decide), c 2 (by decide), c 3 (by decide)⟩
theorem get_q0 {l : List QV} {j : Nat} (h : j < l.length) : (rowT qC l)[j * 4]? = some (.v (.int .i64 ((nth l (j : Nat)).rel))) := (get_q h).1
theorem get_q1 {l : List QV} {j : Nat} (h : j < l.length) : (rowT qC l)[j * 4 + 1]? = some (.v (.int .i64 ((nth l (j : Nat)).size))) := (get_q h).2.1
theorem get_q2 {l : List QV} {j : Nat} (h : j < l.length) : (rowT qC l)[j * 4 + 2]? = some (.v (.string ((nth l (j : Nat)).dig))) := (get_q h).2.2.1
theorem get_q3 {l : List QV} {j : Nat} (h : j < l.length) : (rowT qC l)[j * 4 + 3]? = some (.v (nth l (j : Nat)).p.val) := (get_q h).2.2.2
attribute [local go_sem] get_q0 get_q1 get_q2 get_q3
theorem slice_ref_from {P : Program} {S : Store} (t : TypeId) (r off n lo : Nat) (p : List Nat) (q : IntKind) (h : lo < n) : sliceT P S t (.ref r p off n) (some (.v (.int q (lo : Nat)))) none = (match elemT P t with
    | some e => match szT P e, S.at false r p with
      | some sz, some (e', _) => if e' = sz then some (.ref r p (off + lo * e') (n - lo)) else none
      | _, _ => none
    | none => none) := by
  simp only [sliceT, boundsT, intT]
  rw [if_pos (show 0 ≤ (lo : Int) ∧ (lo : Int) ≤ (n : Int) ∧ (n : Int) ≤ (n : Int) by omega)]
  simp only [Option.map_some, Int.toNat_natCast]
  have e1 : ∀ e' : Nat, (if lo = 0 then T.ref r p off n else if lo < n then T.ref r p (off + lo * e') (n - lo) else T.sl false 0 0 e' []) = .ref r p (off + lo * e') (n - lo) := fun e' => by
    by_cases h0 : lo = 0
    · subst h0; simp
    · rw [if_neg h0, if_pos h]
  simp only [e1]
  rfl
theorem slice_ref_take {P : Program} {S : Store} (t : TypeId) (r off n hi : Nat) (p : List Nat) (q : IntKind) (h : hi ≤ n) : sliceT P S t (.ref r p off n) none (some (.v (.int q (hi : Nat)))) = (match elemT P t with
    | some e => match szT P e, S.at false r p with
      | some sz, some (e', _) => if e' = sz then some (.ref r p off hi) else none
      | _, _ => none
    | none => none) := by
  simp only [sliceT, boundsT, intT]
  rw [if_pos (show 0 ≤ (0 : Int) ∧ (0 : Int) ≤ (hi : Int) ∧ (hi : Int) ≤ (n : Int) by omega)]
  simp only [Option.map_some, Int.toNat_natCast]
  rfl
attribute [local go_sem] slice_ref_from slice_ref_take
theorem gc_zeroQ (keep : List Nat) (n : Nat) : gcTs keep (zeroR [.v (.int .i64 0), .v (.int .i64 0), .v (.string (⟨#[]⟩)), .v (.slice none 0 0)] n) = zeroR [.v (.int .i64 0), .v (.int .i64 0), .v (.string (⟨#[]⟩)), .v (.slice none 0 0)] n := by
  rw [gcTs_map]
  unfold zeroR
  rw [List.map_map]
  refine List.map_congr_left fun i _ => ?_
  have h4 : i % 4 = 0 ∨ i % 4 = 1 ∨ i % 4 = 2 ∨ i % 4 = 3 := by omega
  show gcT keep (List.getD _ (i % 4) .dead) = List.getD _ (i % 4) .dead
  rcases h4 with h | h | h | h <;> rw [h] <;> rfl
attribute [local go_sem] gc_zeroQ
/-! ### Lists ahead of a place -/
def keepQ (r : Int) (x : QV) : Bool := !decide (x.rel = r)
def keptQ (r : Int) (l : List QV) (j : Nat) : List QV := (l.take j).filter (keepQ r)
theorem keptQ_le (r : Int) (l : List QV) (j : Nat) : (keptQ r l j).length ≤ j := by
  have := List.length_filter_le (keepQ r) (l.take j)
  rw [List.length_take] at this
  unfold keptQ; omega
theorem keptQ_s {r : Int} {l : List QV} {j : Nat} (h : j < l.length) : keptQ r l (j + 1) = if (nth l (j : Nat)).rel = r then keptQ r l j else keptQ r l j ++ [nth l (j : Nat)] := by
  unfold keptQ
  rw [take_nth h, List.filter_append]
  by_cases e : (nth l (j : Nat)).rel = r
  · rw [if_pos e]; simp [keepQ, e]
  · rw [if_neg e]; simp [keepQ, e]
theorem keptQ_id {r : Int} {l : List QV} : ∀ j, j ≤ l.length → (∀ i : Nat, i < j → ¬ (nth l (i : Nat)).rel = r) → keptQ r l j = l.take j
  | 0, _, _ => by simp [keptQ]
  | j + 1, hj, h => by
    rw [keptQ_s (by omega), if_neg (h j (by omega)), keptQ_id j (by omega) fun i hi => h i (by omega), take_nth (by omega)]
def rowQ (r : Int) (l : List QV) (j : Nat) : List QV := keptQ r l j ++ l.drop (keptQ r l j).length
theorem rowQ_length {r : Int} {l : List QV} {j : Nat} (h : j ≤ l.length) : (rowQ r l j).length = l.length := by
  have := keptQ_le r l j
  unfold rowQ
  rw [List.length_append, List.length_drop]; omega
theorem rowQ_nth {r : Int} {l : List QV} {j : Nat} (h : j < l.length) : nth (rowQ r l j) (j : Nat) = nth l (j : Nat) := by
  have h1 := keptQ_le r l j
  rw [nth_nat (by rw [rowQ_length (by omega)]; exact h), nth_nat h]
  unfold rowQ
  rw [List.getElem_append_right h1, List.getElem_drop]
  congr 1
  omega
theorem rowQ_set {r : Int} {l : List QV} {j : Nat} (h : j < l.length) (hr : ¬ (nth l (j : Nat)).rel = r) : (rowQ r l j).set (keptQ r l j).length (nth l (j : Nat)) = rowQ r l (j + 1) := by
  have h1 := keptQ_le r l j
  have e : keptQ r l (j + 1) = keptQ r l j ++ [nth l (j : Nat)] := by rw [keptQ_s h, if_neg hr]
  unfold rowQ
  rw [e, List.set_append_right _ _ (Nat.le_refl _), Nat.sub_self, List.drop_eq_getElem_cons (by omega), List.set_cons_zero, List.append_assoc, List.length_append, List.length_singleton]
  rfl
theorem rowQ_skip {r : Int} {l : List QV} {j : Nat} (h : j < l.length) (hr : (nth l (j : Nat)).rel = r) : rowQ r l (j + 1) = rowQ r l j := by
  unfold rowQ
  rw [keptQ_s h, if_pos hr]

set_option maxHeartbeats 4000000 in
theorem impl_HeldNew_1 (k2 : Nat) (a sz r : Int) (d : ByteArray) (v : OneV) : CallsT Try.prog [] F.impl_HeldNew_1 [.agg [.v (.int .i64 a), .v (.int .i64 sz), .v (.string d), .v v.val], .pz k2 [.v (.int .i64 r)] 0] (.v (.bool (decide (a = r)))) [] := by
  refine fnT C.impl_HeldNew_1 ?_
  refine run ?_
  exact r_end [] []
instance (k2 : Nat) (a sz r : Int) (d : ByteArray) (v : OneV) : Con Try.prog F.impl_HeldNew_1 [.agg [.v (.int .i64 a), .v (.int .i64 sz), .v (.string d), .v v.val], .pz k2 [.v (.int .i64 r)] 0] True (.v (.bool (decide (a = r)))) [] := ⟨fun _ => impl_HeldNew_1 k2 a sz r d v⟩

set_option maxHeartbeats 4000000 in
theorem slices_IndexFunc_Held__q (k k2 : Nat) (l : List QV) (r : Int) (hpre : l.length ≤ 2513169434916) : CallsT Try.prog [] F.slices_IndexFunc_Held [.sl false k l.length 4 (rowT qC l), .clo 66 [.pz k2 [.v (.int .i64 r)] 0]] (.v (.int .i64 (findBy (fun x => decide (x.rel = r)) l))) [] := by
  refine fnT C.slices_IndexFunc_Held ?_
  refine run ?_
  refine r_for l.length (fun i => [(0, .sl false k l.length 4 (rowT qC l)), (1, .clo 66 [.pz k2 [.v (.int .i64 r)] 0]), (7, .v (.int .i64 l.length)), (8, .v (.int .i64 i))]) (fun _ => []) (fun i => ∀ j, j < i → ¬ (nth l (j : Nat)).rel = r) [] [] all_0 Gc.of (fun i hi hv => ?_) (fun hv => ?_)
  · refine run ?_
    refine r_clo ?_
    refine run ?_
    refine r_ifd (fun h => ?_) (fun h => ?_)
    · rw [findBy_at (p := fun x : QV => decide (x.rel = r)) hi (decide_eq_true h) (fun j hj hh => hv j hj (of_decide_eq_true hh))]
      refine run ?_
      exact r_end [] []
    · refine run ?_
      exact ⟨[], [], Gc.of, all_step hv h⟩
  · rw [findBy_no (p := fun x : QV => decide (x.rel = r)) fun j hj hh => hv j hj (of_decide_eq_true hh)]
    refine run ?_
    exact r_end [] []
instance (k k2 : Nat) (l : List QV) (r : Int) : Con Try.prog F.slices_IndexFunc_Held [.sl false k l.length 4 (rowT qC l), .clo 66 [.pz k2 [.v (.int .i64 r)] 0]] (l.length ≤ 2513169434916) (.v (.int .i64 (findBy (fun x => decide (x.rel = r)) l))) [] := ⟨fun h => slices_IndexFunc_Held__q k k2 l r h⟩

set_option maxHeartbeats 4000000 in
theorem deleteQ (l : List QV) (r : Int) (hl : l.length ≤ 1000000) : ∃ rest, CallsT Try.prog [⟨4, true, rowT qC l⟩] F.slices_DeleteFunc_Held [.ref 0 [] 0 l.length, .clo 66 [.pz 1 [.v (.int .i64 r)] 0]] (.ref 0 [] 0 (l.filter (keepQ r)).length) [⟨4, true, rowT qC (l.filter (keepQ r)) ++ rest⟩] := by
  by_cases hn : ∀ i : Nat, i < l.length → ¬ (nth l (i : Nat)).rel = r
  · have e : l.filter (keepQ r) = l := by
      have := keptQ_id l.length (Nat.le_refl _) hn
      unfold keptQ at this
      rwa [List.take_length] at this
    have hf : findBy (fun x : QV => decide (x.rel = r)) l = -1 := findBy_no fun j hj hh => hn j hj (of_decide_eq_true hh)
    have hi := slices_IndexFunc_Held__q 1 1 l r (by omega)
    rw [hf] at hi
    refine ⟨[], ?_⟩
    rw [e, List.append_nil]
    refine fnT C.slices_DeleteFunc_Held ?_
    refine runC ?_
    refine r_callp true hi ?_
    refine run ?_
    exact r_end [0] [] (hm := keep_one _)
  · obtain ⟨i0, hi0, hr0, hb0⟩ : ∃ i0 : Nat, i0 < l.length ∧ (nth l (i0 : Nat)).rel = r ∧ ∀ j : Nat, j < i0 → ¬ (nth l (j : Nat)).rel = r := by
      have hb := findBy_b (fun x : QV => decide (x.rel = r)) l
      by_cases h0 : 0 ≤ findBy (fun x : QV => decide (x.rel = r)) l
      · have hh := findBy_hit (p := fun x : QV => decide (x.rel = r)) h0
        obtain ⟨m, hm⟩ := Int.eq_ofNat_of_zero_le h0
        rw [hm] at hh hb
        refine ⟨m, by omega, of_decide_eq_true hh, fun j hj e => ?_⟩
        have h3 : l.findIdx (fun x => decide (x.rel = r)) = m := by
          unfold findBy at hm
          split at hm <;> omega
        have h4 := List.not_of_lt_findIdx (xs := l) (p := fun x : QV => decide (x.rel = r)) (i := j) (by omega)
        rw [← nth_nat (by omega)] at h4
        exact absurd e (by simpa using h4)
      · exfalso
        refine hn fun i hi e => h0 ?_
        unfold findBy
        split
        · omega
        · rename_i h2
          refine absurd (List.findIdx_lt_length_of_exists ⟨l[i], List.getElem_mem _, decide_eq_true ?_⟩) h2
          rw [← nth_nat hi]; exact e
    have hf : findBy (fun x : QV => decide (x.rel = r)) l = i0 := findBy_at hi0 (decide_eq_true hr0) fun j hj hh => hb0 j hj (of_decide_eq_true hh)
    have hi := slices_IndexFunc_Held__q 1 1 l r (by omega)
    rw [hf] at hi
    have k0 : keptQ r l (i0 + 1) = l.take i0 := by rw [keptQ_s hi0, if_pos hr0, keptQ_id i0 (by omega) hb0]
    have k0l : (keptQ r l (i0 + 1)).length = i0 := by rw [k0, List.length_take]; omega
    have r0 : rowQ r l (i0 + 1) = l := by unfold rowQ; rw [k0l, k0, List.take_append_drop]
    obtain ⟨N, hN⟩ : ∃ N, l.length = i0 + 1 + N := ⟨l.length - (i0 + 1), by omega⟩
    have hkl : ∀ t, (keptQ r l (i0 + 1 + t)).length ≤ i0 + t := by
      intro t
      induction t with
      | zero => rw [Nat.add_zero, k0l]; exact Nat.le_refl _
      | succ t ih =>
        by_cases hlt : i0 + 1 + t < l.length
        · rw [← Nat.add_assoc, keptQ_s hlt]
          split
          · omega
          · rw [List.length_append, List.length_singleton]; omega
        · have : keptQ r l (i0 + 1 + (t + 1)) = keptQ r l (i0 + 1 + t) := by
            unfold keptQ
            rw [List.take_of_length_le (by omega), List.take_of_length_le (by omega)]
          rw [this]; omega
    have hkend : keptQ r l l.length = l.filter (keepQ r) := by unfold keptQ; rw [List.take_length]
    refine ⟨zeroR [.v (.int .i64 0), .v (.int .i64 0), .v (.string (⟨#[]⟩)), .v (.slice none 0 0)] (l.length - (l.filter (keepQ r)).length), ?_⟩
    refine fnT C.slices_DeleteFunc_Held ?_
    refine runC ?_
    refine r_callp true hi ?_
    refine run ?_
    refine r_for N (fun t => [(0, .ref 0 [] 0 l.length), (1, .clo 66 [.pz 1 [.v (.int .i64 r)] 0]), (5, .v (.int .i64 ((keptQ r l (i0 + 1 + t)).length))), (6, .v (.int .i64 (((i0 + 1 + t : Nat) : Int))))]) (fun t => [⟨4, true, rowT qC (rowQ r l (i0 + 1 + t))⟩]) (fun _ => True) [0] [] trivial (Gc.of (hf := ?_) (hs := ?_)) (fun t ht _ => ?_) (fun _ => ?_)
    · rw [Nat.add_zero, k0l]
      (simp only [go_sem, ↓reduceIte, Nat.reduceEqDiff, Nat.reduceMul, Nat.reduceAdd, Nat.reduceSub, Nat.reduceLT, Nat.reduceGT, Nat.reduceLeDiff, Nat.reduceBEq, Int.reduceLT, Int.reduceLE, Int.reduceNe, Int.reduceEq, Int.reduceToNat, Int.reduceAdd, Int.reduceSub, Int.reduceMul, Int.reduceNeg, Nat.reducePow, Int.reducePow, Nat.reduceSubDiff, decide_true, decide_false, reduceCtorEq, or_self, or_false, false_or, or_true, true_or, if_false, gt_iff_lt, ge_iff_le, ne_eq, not_true_eq_false, not_false_eq_true, and_self, beq_self_eq_true, Bool.false_eq_true]; try (repeat (first | exact True.intro | exact Wk.refl _ | exact Wk.nil _ _ | exact Wk.dead _ | exact Wk.bT (by assumption) | exact Wk.bF (by assumption) | exact Wk.eqI (by omega) | exact WkS.refl _ | exact Wks.same _ | exact Wks.nil | exact WkS.nil | refine And.intro ?_ ?_ | refine Wk.aggs ?_ | refine Wk.tups ?_ | refine Wks.cons ?_ ?_ | refine WkS.cons (by first | exact fun _ => rfl | exact fun h => absurd h Bool.false_ne_true) ?_ ?_ ?_ | assumption | exact (fun h => h) | exact (fun h => absurd h Bool.false_ne_true) | intro _)))
    · rw [Nat.add_zero, r0]
      (simp only [go_sem, ↓reduceIte, Nat.reduceEqDiff, Nat.reduceMul, Nat.reduceAdd, Nat.reduceSub, Nat.reduceLT, Nat.reduceGT, Nat.reduceLeDiff, Nat.reduceBEq, Int.reduceLT, Int.reduceLE, Int.reduceNe, Int.reduceEq, Int.reduceToNat, Int.reduceAdd, Int.reduceSub, Int.reduceMul, Int.reduceNeg, Nat.reducePow, Int.reducePow, Nat.reduceSubDiff, decide_true, decide_false, reduceCtorEq, or_self, or_false, false_or, or_true, true_or, if_false, gt_iff_lt, ge_iff_le, ne_eq, not_true_eq_false, not_false_eq_true, and_self, beq_self_eq_true, Bool.false_eq_true]; try (repeat (first | exact True.intro | exact Wk.refl _ | exact Wk.nil _ _ | exact Wk.dead _ | exact Wk.bT (by assumption) | exact Wk.bF (by assumption) | exact Wk.eqI (by omega) | exact WkS.refl _ | exact Wks.same _ | exact Wks.nil | exact WkS.nil | refine And.intro ?_ ?_ | refine Wk.aggs ?_ | refine Wk.tups ?_ | refine Wks.cons ?_ ?_ | refine WkS.cons (by first | exact fun _ => rfl | exact fun h => absurd h Bool.false_ne_true) ?_ ?_ ?_ | assumption | exact (fun h => h) | exact (fun h => absurd h Bool.false_ne_true) | intro _)))
    · obtain ⟨j, hj⟩ : ∃ j, j = i0 + 1 + t := ⟨_, rfl⟩
      have hj2 : i0 + 1 + (t + 1) = j + 1 := by omega
      rw [← hj, hj2]
      have hlt : j < l.length := by omega
      have hrl := rowQ_length (r := r) (l := l) (j := j) (by omega)
      have hnt := rowQ_nth (r := r) (l := l) (j := j) hlt
      have hkt := hkl t
      rw [← hj] at hkt
      refine runC ?_
      rw [hnt]
      refine r_clo ?_
      refine run ?_
      refine r_ifd (fun h => ?_) (fun h => ?_)
      · rw [← rowQ_set hlt h]
        refine run ?_
        refine r_sto (enc := qC) _ (keptQ r l j).length (nth l (j : Nat)) ?_
        refine run ?_
        have e1 : (keptQ r l (j + 1)).length = (keptQ r l j).length + 1 := by rw [keptQ_s hlt, if_neg h, List.length_append, List.length_singleton]
        rw [e1]
        exact ⟨[0], [], Gc.of, trivial⟩
      · have h := Decidable.not_not.1 h
        rw [rowQ_skip hlt h]
        have e1 : (keptQ r l (j + 1)).length = (keptQ r l j).length := by rw [keptQ_s hlt, if_pos h]
        rw [e1]
        refine run ?_
        exact ⟨[0], [], Gc.of, trivial⟩
    · rw [show i0 + 1 + N = l.length by omega, hkend]
      have hkN := hkl N
      rw [show i0 + 1 + N = l.length by omega, hkend] at hkN
      have hrq : rowQ r l l.length = l.filter (keepQ r) ++ l.drop (l.filter (keepQ r)).length := by unfold rowQ; rw [hkend]
      rw [hrq]
      generalize hF : l.filter (keepQ r) = F1 at *
      refine run ?_
      refine r_clr (enc := qC) F1 (l.drop F1.length) ?_ (hm := by rw [List.length_drop])
      refine run ?_
      exact r_end [0] [] (hm := keep_one _)

end Go.TL
