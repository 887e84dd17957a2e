/- One held is put into a list of one's own, wherever. No conditions but those that are written. -/
import Derived.Test.YtneiifghegdfgaaP6
namespace Go.TL
set_option linter.unusedSimpArgs false
open Go.Proofs Go.RowKit
attribute [local irreducible] wpOpsT wpT EndT Ex.seq Ex.block W

def tailT (r off n e : Nat) (p : List Nat) : T := if n = 0 then .ref r p off n else .sl false 0 0 e []
theorem slice_ref_end {P : Program} {S : Store} (t : TypeId) (r off n : Nat) (p : List Nat) (q : IntKind) : sliceT P S t (.ref r p off n) (some (.v (.int q (n : Nat)))) none = (match elemT P t with
    | some e => match szT P e, S.at false r p with
      | some sz, some (e', _) => if e' = sz then some (tailT r off n e' p) else none
      | _, _ => none
    | none => none) := by
  simp only [sliceT, boundsT, intT]
  rw [if_pos (show 0 ≤ (n : Int) ∧ (n : Int) ≤ (n : Int) ∧ (n : Int) ≤ (n : Int) by omega)]
  simp only [Option.map_some, Int.toNat_natCast]
  have e1 : ∀ e' : Nat, (if n = 0 then T.ref r p off n else if n < n then T.ref r p (off + n * e') (n - n) else T.sl false 0 0 e' []) = tailT r off n e' p := fun e' => by
    unfold tailT
    by_cases h : n = 0
    · rw [if_pos h, if_pos h]
    · rw [if_neg h, if_neg h, if_neg (by omega)]
  simp only [e1]
  rfl
attribute [local go_sem] slice_ref_end
theorem keep_two : ∀ i, i < 2 → ([0, 1, 2] : List Nat)[i]? = some i := fun i hi => by
  match i, hi with
  | 0, _ => rfl
  | 1, _ => rfl

set_option maxHeartbeats 4000000 in
theorem insQ_end (l : List QV) (y : QV) (hl : l.length ≤ 1000000) : CallsT Try.prog [⟨4, true, rowT qC l⟩, ⟨4, true, qC y⟩] F.slices_Insert_Held [.ref 0 [] 0 l.length, .v (.int .i64 ((l.length : Nat))), .ref 1 [] 0 1] (.ref 2 [] 0 (l.length + 1)) [⟨4, false, rowT qC l⟩, ⟨4, true, qC y⟩, ⟨4, true, rowT qC (l ++ [y])⟩] := by
  refine fnT C.slices_Insert_Held ?_
  refine run ?_
  rw [List.length_append, List.length_singleton]
  exact r_end [0, 1, 2] [] (hm := keep_two)

/-! ### For lists of one's own -/
theorem opq_two (V : Nat → Nat → Value) (hV : ∀ r j, (V r j).oneCell' = true) (l m : List HeldV) : opqS V [⟨4, true, rowT heldO l⟩, ⟨4, true, rowT heldO m⟩] = [⟨4, true, rowT qC (qof (V 0) (hV 0) l)⟩, ⟨4, true, rowT qC (qof (V 1) (hV 1) m)⟩] := by
  show [(⟨4, true, opqL (V 0) (rowT heldO l)⟩ : Root), ⟨4, true, opqL (V 1) (rowT heldO m)⟩] = _
  rw [opq_row, opq_row]
def insJ (n i : Nat) : List (Nat × Nat) := ((List.range i).map fun t => (0, t)) ++ ((1, 0) :: (List.range (n - i)).map fun t => (0, i + t))
theorem insJ_nodup {n i : Nat} : (insJ n i).Nodup := by
  unfold insJ List.Nodup
  rw [List.pairwise_append]
  have h1 : List.Pairwise (fun a b : Nat × Nat => a ≠ b) ((List.range i).map fun t => ((0, t) : Nat × Nat)) := by
    rw [List.pairwise_map]
    exact List.nodup_range.imp fun h e => h (congrArg Prod.snd e)
  have h2 : List.Pairwise (fun a b : Nat × Nat => a ≠ b) ((List.range (n - i)).map fun t => ((0, i + t) : Nat × Nat)) := by
    rw [List.pairwise_map]
    refine List.nodup_range.imp ?_
    intro a b h e
    have e2 : i + a = i + b := congrArg Prod.snd e
    exact h (by omega)
  refine ⟨h1, List.pairwise_cons.2 ⟨?_, h2⟩, ?_⟩
  · intro x hx e
    obtain ⟨t, _, rfl⟩ := List.mem_map.1 hx
    cases e
  · intro x hx y hy e
    obtain ⟨t, ht, rfl⟩ := List.mem_map.1 hx
    have ht := List.mem_range.1 ht
    rcases List.mem_cons.1 hy with h | h
    · rw [h] at e
      cases e
    · obtain ⟨u, _, rfl⟩ := List.mem_map.1 h
      have e2 : t = i + u := congrArg Prod.snd e
      omega
theorem insJ_map {α : Type} [Inhabited α] {l : List α} {y : α} {i : Nat} (h : i ≤ l.length) (f : Nat × Nat → α) (h0 : ∀ t : Nat, t < l.length → f (0, t) = nth l (t : Nat)) (h1 : f (1, 0) = y) : (insJ l.length i).map f = l.take i ++ y :: l.drop i := by
  unfold insJ
  rw [List.map_append, List.map_cons, List.map_map, List.map_map, h1]
  congr 1
  · refine List.ext_getElem (by simp; omega) fun t k1 k2 => ?_
    rw [List.getElem_map, List.getElem_range, List.getElem_take]
    simp only [List.length_map, List.length_range] at k1
    show f (0, t) = _
    rw [h0 t (by omega), nth_nat (by omega)]
  · congr 1
    refine List.ext_getElem (by simp) fun t k1 k2 => ?_
    rw [List.getElem_map, List.getElem_range, List.getElem_drop]
    simp only [List.length_map, List.length_range] at k1
    show f (0, i + t) = _
    rw [h0 (i + t) (by omega), nth_nat (by omega)]

theorem insertH (l : List HeldV) (y : HeldV) (i : Nat) (hi : i ≤ l.length) (hl : l.length ≤ 1000000) : CallsT Try.prog [⟨4, true, rowT heldO l⟩, ⟨4, true, heldO y⟩] F.slices_Insert_Held [.ref 0 [] 0 l.length, .v (.int .i64 ((i : Nat))), .ref 1 [] 0 1] (.ref 2 [] 0 (l.length + 1)) [⟨4, false, []⟩, ⟨4, false, []⟩, ⟨4, true, rowT heldO (l.take i ++ y :: l.drop i)⟩] := by
  obtain ⟨ls, hls⟩ : ∃ ls : Nat → List HeldV, ls = fun r => if r = 0 then l else [y] := ⟨_, rfl⟩
  have ls0 : ls 0 = l := by rw [hls]; rfl
  have ls1 : ls 1 = [y] := by rw [hls]; rfl
  have hS : ∀ s ∈ insJ l.length i, ([⟨4, true, rowT heldO l⟩, ⟨4, true, rowT heldO [y]⟩] : Store)[s.1]? = some ⟨4, true, rowT heldO (ls s.1)⟩ ∧ s.2 < (ls s.1).length := fun s hs => by
    unfold insJ at hs
    rcases List.mem_append.1 hs with hs | hs
    · obtain ⟨t, ht, rfl⟩ := List.mem_map.1 hs
      have := List.mem_range.1 ht
      rw [ls0]
      exact ⟨rfl, by show t < l.length; omega⟩
    rcases List.mem_cons.1 hs with rfl | hs
    · rw [ls1]
      exact ⟨rfl, by show 0 < 1; decide⟩
    · obtain ⟨t, ht, rfl⟩ := List.mem_map.1 hs
      have := List.mem_range.1 ht
      rw [ls0]
      exact ⟨rfl, by show i + t < l.length; omega⟩
  have hy1 : heldO y = rowT heldO [y] := (List.append_nil (heldO y)).symm
  rw [hy1]
  have h := CallsT.opq (P := Try.prog) (S := [⟨4, true, rowT heldO l⟩, ⟨4, true, rowT heldO [y]⟩]) (g := F.slices_Insert_Held) (args := [.ref 0 [] 0 l.length, .v (.int .i64 ((i : Nat))), .ref 1 [] 0 1]) (n := l.length + 1) (e := 4) (σ := cells4 (insJ l.length i))
    (fun r x hx c hc => by
      match r, hx with
      | 0, hx => cases hx; exact plain_heldO l c hc
      | 1, hx => cases hx; exact plain_heldO [y] c hc)
    (valid4 (ls := ls) hS) (nodup4 insJ_nodup) (fun V hV => by
      have hq1 : ∃ z : QV, qof (V 1) (hV 1) [y] = [z] := ⟨_, rfl⟩
      obtain ⟨z, hz⟩ := hq1
      have e3 : (insJ l.length i).map (fun s => nth (qof (V s.1) (hV s.1) (ls s.1)) (s.2 : Nat)) = (qof (V 0) (hV 0) l).take i ++ z :: (qof (V 0) (hV 0) l).drop i := by
        have := insJ_map (l := qof (V 0) (hV 0) l) (y := z) (i := i) (by rw [qof_length]; exact hi) (fun s => nth (qof (V s.1) (hV s.1) (ls s.1)) (s.2 : Nat)) (fun t _ => by dsimp only; rw [ls0]) (by dsimp only; rw [ls1, hz]; rfl)
        rwa [qof_length] at this
      refine ⟨2, [], [⟨4, false, rowT qC (qof (V 0) (hV 0) l)⟩, ⟨4, true, qC z⟩, ⟨4, true, rowT qC ((qof (V 0) (hV 0) l).take i ++ z :: (qof (V 0) (hV 0) l).drop i)⟩], fun any => ?_, ?_⟩
      · rw [opq4 (ls := ls) hV hS, e3, List.append_nil]
        rfl
      · rw [opq_two V hV, hz]
        have hz1 : rowT qC [z] = qC z := List.append_nil (qC z)
        rw [hz1]
        have hql := qof_length (V 0) (hV 0) l
        rcases Nat.lt_or_ge i l.length with hlt | hge
        · have := insQ_mid (qof (V 0) (hV 0) l) z i (by omega) (by omega)
          rwa [hql] at this
        · obtain rfl : i = l.length := by omega
          have := insQ_end (qof (V 0) (hV 0) l) z (by omega)
          rw [hql] at this
          rw [List.take_of_length_le (by omega), List.drop_of_length_le (by omega)]
          exact this)
  have e2 : (cells4 (insJ l.length i)).map (qpick [⟨4, true, rowT heldO l⟩, ⟨4, true, rowT heldO [y]⟩]) = rowT heldO (l.take i ++ y :: l.drop i) := by
    rw [pick4 (ls := ls) hS]
    congr 1
    exact insJ_map hi _ (fun t _ => by dsimp only; rw [ls0]) (by dsimp only; rw [ls1]; rfl)
  rw [e2] at h
  exact h

end Go.TL
