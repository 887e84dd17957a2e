/- Helds whose parts are not looked into: lists of them are moved. No conditions but those that are written. -/
import Derived.Test.YtneiifghegdfgaaP3
import Derived.Test.YtneiifghegdfgaaTOpq
namespace Go.TL
set_option linter.unusedSimpArgs false
open Go.Proofs Go.RowKit
attribute [local irreducible] wpOpsT wpT EndT Ex.seq Ex.block W

/-- A value of one cell. -/
structure OneV where
  val : Value
  ok : val.oneCell' = true
instance : Inhabited OneV := ⟨⟨.bool false, rfl⟩⟩
structure QV where
  rel : Int
  size : Int
  dig : ByteArray
  p : OneV
instance : Inhabited QV := ⟨⟨0, 0, ⟨#[]⟩, default⟩⟩
def qC (x : QV) : List T := [.v (.int .i64 x.rel), .v (.int .i64 x.size), .v (.string x.dig), .v x.p.val]
theorem qE : Enc qC 4 := ⟨fun _ => rfl, fun x => by simp only [qC, List.all_cons, List.all_nil, plainC, x.p.ok]; rfl⟩
instance : RowE qC 4 := ⟨qE⟩
instance : RowF qC := ⟨fun _ => rfl⟩
instance : RowV qC := ⟨fun _ => rfl⟩
attribute [go_sem] qC
@[go_sem] theorem one_ok (x : OneV) : x.val.oneCell' = true := x.ok

def qof (V : Nat → Value) (hV : ∀ j, (V j).oneCell' = true) (l : List HeldV) : List QV := l.mapIdx fun i x => ⟨x.rel, x.size, x.dig, ⟨V (4 * i + 3), hV _⟩⟩
theorem qof_length (V : Nat → Value) (hV : ∀ j, (V j).oneCell' = true) (l : List HeldV) : (qof V hV l).length = l.length := by simp [qof]
theorem opqC_own (v : Value) (n e : Nat) (cs : List T) : opqC v (ownC n e cs) = .v v := by
  rcases Nat.eq_zero_or_pos n with h | h
  · subst h
    unfold ownC ownB
    split <;> rfl
  · rw [ownC_pos _ _ (by omega)]; rfl
theorem opq_row : ∀ (l : List HeldV) (V : Nat → Value) (hV : ∀ j, (V j).oneCell' = true), opqL V (rowT heldO l) = rowT qC (qof V hV l)
  | [], _, _ => rfl
  | x :: l, V, hV => by
    have ih := opq_row l (fun j => V (4 + j)) (fun j => hV _)
    rw [rowT_cons]
    unfold opqL at ih ⊢
    rw [List.mapIdx_append]
    have e1 : (heldO x).mapIdx (fun j c => opqC (V j) c) = qC ⟨x.rel, x.size, x.dig, ⟨V 3, hV 3⟩⟩ := by
      show [opqC (V 0) _, opqC (V 1) _, opqC (V 2) _, opqC (V 3) (ownC x.parts.length 1 (rowT strC x.parts))] = _
      rw [opqC_own]; rfl
    have e2 : (rowT heldO l).mapIdx (fun j c => opqC (V (j + (heldO x).length)) c) = rowT qC (qof (fun j => V (4 + j)) (fun j => hV _) l) := by
      rw [← ih]
      congr 1
      funext j c
      rw [show j + (heldO x).length = 4 + j by show j + 4 = 4 + j; omega]
    rw [e1, e2]
    have e3 : qof V hV (x :: l) = ⟨x.rel, x.size, x.dig, ⟨V 3, hV 3⟩⟩ :: qof (fun j => V (4 + j)) (fun j => hV _) l := by
      unfold qof
      rw [List.mapIdx_cons]
      congr 1
      congr 1
      funext i y
      congr 2
      simp only [OneV.mk.injEq]
      congr 1
      omega
    rw [e3, rowT_cons]
theorem qof_nth (V : Nat → Value) (hV : ∀ j, (V j).oneCell' = true) {l : List HeldV} {i : Nat} (h : i < l.length) : nth (qof V hV l) (i : Nat) = ⟨(nth l (i : Nat)).rel, (nth l (i : Nat)).size, (nth l (i : Nat)).dig, ⟨V (4 * i + 3), hV _⟩⟩ := by
  rw [nth_nat (by rw [qof_length]; exact h), nth_nat h]
  simp [qof]

/-- The cells of a thing. -/
def idx4 (s : Nat × Nat) : List (Nat × Nat) := [(s.1, 4 * s.2), (s.1, 4 * s.2 + 1), (s.1, 4 * s.2 + 2), (s.1, 4 * s.2 + 3)]
def cells4 (J : List (Nat × Nat)) : List (Nat × Nat) := J.flatMap idx4
theorem mem4 {s x : Nat × Nat} (h : x ∈ idx4 s) : x.1 = s.1 ∧ 4 * s.2 ≤ x.2 ∧ x.2 < 4 * s.2 + 4 := by
  simp only [idx4, List.mem_cons, List.not_mem_nil, or_false] at h
  rcases h with rfl | rfl | rfl | rfl <;> exact ⟨rfl, by dsimp only; omega, by dsimp only; omega⟩
theorem nodup4 {J : List (Nat × Nat)} (h : J.Nodup) : (cells4 J).Nodup := by
  unfold cells4 List.Nodup
  rw [List.pairwise_flatMap]
  refine ⟨fun s _ => ?_, List.Pairwise.imp (fun {s t} hst x hx y hy e => ?_) h⟩
  · simp [idx4]
  · obtain ⟨h1, h2, h3⟩ := mem4 hx
    obtain ⟨k1, k2, k3⟩ := mem4 hy
    subst e
    exact hst (Prod.ext (h1.symm.trans k1) (by omega))
section
variable {S : Store} {ls : Nat → List HeldV} {J : List (Nat × Nat)}
theorem row4_at {l : List HeldV} {i t : Nat} (h : i < l.length) (ht : t < 4) : (rowT heldO l)[4 * i + t]? = (heldO (nth l (i : Nat)))[t]? := by
  rw [row_split (enc := heldO) l i h, show 4 * i + t = (l.take i).length * 4 + t by rw [List.length_take]; omega, at_row' (enc := heldO) (l.take i) _ t]
  rw [List.getElem?_append_left (by show t < 4; exact ht)]
theorem valid4 (hS : ∀ s ∈ J, S[s.1]? = some ⟨4, true, rowT heldO (ls s.1)⟩ ∧ s.2 < (ls s.1).length) : ∀ s ∈ cells4 J, ∃ x : Root, S[s.1]? = some x ∧ x.live = true ∧ s.2 < x.cs.length := fun x hx => by
  obtain ⟨s, hs, hx⟩ := List.mem_flatMap.1 hx
  obtain ⟨h1, h2, h3⟩ := mem4 hx
  obtain ⟨k1, k2⟩ := hS s hs
  exact ⟨_, by rw [h1]; exact k1, rfl, by show x.2 < (rowT heldO (ls s.1)).length; rw [len_rowO]; omega⟩
theorem pick4 (hS : ∀ s ∈ J, S[s.1]? = some ⟨4, true, rowT heldO (ls s.1)⟩ ∧ s.2 < (ls s.1).length) : (cells4 J).map (qpick S) = rowT heldO (J.map fun s => nth (ls s.1) (s.2 : Nat)) := by
  induction J with
  | nil => rfl
  | cons s J ih =>
    obtain ⟨k1, k2⟩ := hS s (.head _)
    have ih := ih fun x hx => hS x (.tail _ hx)
    unfold cells4 at ih ⊢
    rw [List.flatMap_cons, List.map_append, ih, List.map_cons, rowT_cons]
    congr 1
    have q : ∀ t, t < 4 → qpick S (s.1, 4 * s.2 + t) = ((heldO (nth (ls s.1) (s.2 : Nat)))[t]?).getD .dead := fun t ht => by
      unfold qpick
      rw [k1]
      show ((rowT heldO (ls s.1))[4 * s.2 + t]?).getD .dead = _
      rw [row4_at k2 ht]
    have q0 := q 0 (by decide)
    have q1 := q 1 (by decide)
    have q2 := q 2 (by decide)
    have q3 := q 3 (by decide)
    rw [Nat.add_zero] at q0
    simp only [idx4, List.map_cons, List.map_nil, q0, q1, q2, q3]
    rfl
theorem opq4 {V : Nat → Nat → Value} (hV : ∀ r j, (V r j).oneCell' = true) (hS : ∀ s ∈ J, S[s.1]? = some ⟨4, true, rowT heldO (ls s.1)⟩ ∧ s.2 < (ls s.1).length) :
    (cells4 J).map (fun s => opqC (V s.1 s.2) (qpick S s)) = rowT qC (J.map fun s => nth (qof (V s.1) (hV s.1) (ls s.1)) (s.2 : Nat)) := by
  induction J with
  | nil => rfl
  | cons s J ih =>
    obtain ⟨k1, k2⟩ := hS s (.head _)
    have ih := ih fun x hx => hS x (.tail _ hx)
    unfold cells4 at ih ⊢
    rw [List.flatMap_cons, List.map_append, ih, List.map_cons, rowT_cons]
    congr 1
    have q : ∀ t, t < 4 → qpick S (s.1, 4 * s.2 + t) = ((heldO (nth (ls s.1) (s.2 : Nat)))[t]?).getD .dead := fun t ht => by
      unfold qpick
      rw [k1]
      show ((rowT heldO (ls s.1))[4 * s.2 + t]?).getD .dead = _
      rw [row4_at k2 ht]
    have q0 := q 0 (by decide)
    have q1 := q 1 (by decide)
    have q2 := q 2 (by decide)
    have q3 := q 3 (by decide)
    rw [Nat.add_zero] at q0
    rw [qof_nth (V s.1) (hV s.1) k2]
    simp only [idx4, List.map_cons, List.map_nil, q0, q1, q2, q3]
    show [_, _, _, opqC (V s.1 (4 * s.2 + 3)) (ownC _ _ _)] = _
    rw [opqC_own]
    rfl
end
theorem plain_heldO (l : List HeldV) : ∀ c ∈ rowT heldO l, PlainO c := fun c hc => by
  unfold rowT at hc
  obtain ⟨x, _, hc⟩ := List.mem_flatMap.1 hc
  simp only [heldO, List.mem_cons, List.not_mem_nil, or_false] at hc
  rcases hc with rfl | rfl | rfl | rfl
  · exact .v _
  · exact .v _
  · exact .v _
  · rcases Nat.eq_zero_or_pos x.parts.length with h | h
    · have : x.parts = [] := List.eq_nil_of_length_eq_zero h
      rw [this]
      rw [show ownC ([] : List ByteArray).length 1 (rowT strC []) = .sl false 0 0 1 [] from ownC_nil _ _]
      exact .nil _ _ _
    · rw [ownC_pos _ _ (by omega)]; exact .own _ _ _ _

end Go.TL
