/- Texts joined. No conditions but those that are written. -/
import Derived.Test.YtneiifghegdfgaaJJ4J6
import Derived.Test.YtneiifghegdfgaaJJ7J9
import Derived.Test.YtneiifghegdfgaaJJ11J13
/- Helds are loaded, both sides. No conditions but those that are written. -/
namespace Go.TL
set_option linter.unusedSimpArgs false
open Go.Proofs Go.RowKit
attribute [local irreducible] wpOpsT wpT EndT Ex.seq Ex.block W

theorem sum_bndJ {α : Type} {f : α → Int} {K : Int} : ∀ l : List α, (∀ x ∈ l, f x ≤ K) → sumI f l ≤ K * l.length
  | [], _ => by simp [sumI]
  | x :: l, h => by
    have h1 := h x (.head _)
    have h2 := sum_bndJ l fun y hy => h y (.tail _ hy)
    rw [show sumI f (x :: l) = f x + sumI f l by simp [sumI], List.length_cons, Int.natCast_add, Int.mul_add]
    omega
/-- What is right is small. -/
theorem held_small {l : List HeldV} (h : heldsP l) : bndHS l ∧ totHS l ≤ 1048576 := by
  obtain ⟨h1, h2, _⟩ := heldsP_iff.1 h
  have key : ∀ x ∈ l, bndH x ∧ totH x ≤ 3000 := fun x hx => by
    obtain ⟨_, k1, k2, k3, k4⟩ := h2 x hx
    have hn := partsN_b x.size
    have hp : ∀ t ∈ x.parts, t.size ≤ 16 := fun t ht => by
      obtain ⟨i, hi, rfl⟩ := List.getElem_of_mem ht
      have := k4 i hi
      unfold partP at this
      rw [nth_nat hi] at this
      rcases this with e | e
      · rw [e]; decide
      · omega
    have hs := sum_bndJ (f := szS) (K := 16) x.parts fun t ht => by have := hp t ht; unfold szS; omega
    refine ⟨⟨by omega, by omega, fun t ht => by have := hp t ht; omega⟩, ?_⟩
    unfold totH totP totS
    omega
  have hs := sum_bndJ (f := totH) (K := 3000) l fun x hx => (key x hx).2
  exact ⟨⟨by omega, fun x hx => (key x hx).1⟩, by unfold totHS; omega⟩

theorem parcel_set {sz : Int} {d : ByteArray} {l : List ByteArray} {i : Int} {s : ByteArray} (h : parcelP sz d l) (hi : 0 ≤ i) (hs : (s.size : Int) = min 16 (sz - i * 16)) : parcelP sz d (l.set i.toNat s) := by
  obtain ⟨h1, h2, h3, h4⟩ := h
  refine ⟨h1, h2, by rw [List.length_set]; exact h3, fun j hj => ?_⟩
  rw [List.length_set] at hj
  have hj2 : j < (l.set i.toNat s).length := by rw [List.length_set]; exact hj
  have := h4 j hj
  unfold partP at this ⊢
  rw [nth_nat hj2, List.getElem_set]
  rw [nth_nat hj] at this
  split
  · rename_i e
    refine .inr ?_
    rw [← e, Int.toNat_of_nonneg hi]
    exact hs
  · exact this
theorem set_same {l : List HeldV} {n : Nat} {x : HeldV} (h : heldsP l) (hn : n < l.length) (e : x.rel = (nth l (n : Nat)).rel) (hp : parcelP x.size x.dig x.parts) : heldsP (l.set n x) := by
  obtain ⟨h1, h2, h3⟩ := heldsP_iff.1 h
  refine heldsP_iff.2 ⟨by rw [List.length_set]; exact h1, fun y hy => ?_, ?_⟩
  · rcases List.mem_or_eq_of_mem_set hy with hy | rfl
    · exact h2 y hy
    · exact ⟨by rw [e]; exact (h2 _ (nth_mem hn)).1, hp⟩
  · unfold srtH at h3 ⊢
    rw [← List.pairwise_map (f := HeldV.rel) (R := fun a b : Int => a < b)] at h3 ⊢
    rw [List.map_set, e, nth_nat hn, show l[n].rel = (l.map HeldV.rel)[n]'(by rw [List.length_map]; exact hn) from (List.getElem_map _).symm, List.set_getElem_self]
    exact h3
theorem putH_ok {l : List HeldV} {r i : Int} {s : ByteArray} (h : heldsP l) : heldsP (putH l r i s).1 := by
  have hfb := find_b l r
  unfold putH
  split
  · exact h
  rename_i h1
  split
  · rename_i h2
    have hn : (findH l r).toNat < l.length := by omega
    have e : nth l (findH l r) = nth l (((findH l r).toNat : Nat) : Int) := by rw [Int.toNat_of_nonneg (by omega)]
    unfold putP at h2 ⊢
    split at h2
    · rename_i hc
      split at h2
      · exact absurd (show (2 : Int) = 0 from h2) (by decide)
      · rename_i n1
        split at h2
        · exact absurd (show (3 : Int) = 0 from h2) (by decide)
        · rename_i n2
          rw [if_pos hc, if_neg n1, if_neg n2]
          exact set_same h hn (by dsimp only; rw [e]) (parcel_set hc.1 hc.2.1.1 hc.2.2)
    · exact absurd h2 (by decide)
  · exact h
theorem newH_ok {l : List HeldV} {r sz : Int} {d : ByteArray} (h : heldsP l) (hn : (newH l r sz d).2 = true) : heldsP (newH l r sz d).1 := by
  by_cases hk : newOk sz d
  · rw [newH_eq h hk] at hn ⊢
    have hn := of_decide_eq_true hn
    rw [if_pos hn]
    exact hn
  · rw [newH_no h hk] at hn
    cases hn
theorem piece_ok {l l2 : List HeldV} {s : ByteArray} (h : heldsP l) (hv : pieceV l s = some l2) : heldsP l2 := by
  unfold pieceV at hv
  split at hv
  · split at hv
    · split at hv
      · split at hv
        · rename_i hn
          cases hv
          exact newH_ok h hn
        · cases hv
      · cases hv
    · split at hv
      · split at hv
        · cases hv
          exact putH_ok h
        · cases hv
      · cases hv
  · cases hv

/-- What texts make of a list; what is refused ends it. -/
def hlL : List HeldV → List ByteArray → List HeldV
  | l, [] => l
  | l, s :: ts => match pieceV l s with
    | some l2 => hlL l2 ts
    | none => l
theorem hlL_ok : ∀ (ts : List ByteArray) {l : List HeldV}, heldsP l → heldsP (hlL l ts)
  | [], _, h => h
  | s :: ts, l, h => by
    unfold hlL
    cases hv : pieceV l s with
    | none => exact h
    | some l2 => exact hlL_ok ts (piece_ok h hv)
theorem heldsP_nil : heldsP [] := ⟨by decide, fun i hi => absurd hi (Nat.not_lt_zero _)⟩
theorem hlL_drop {ts : List ByteArray} {i : Nat} (hi : i < ts.length) (l : List HeldV) : hlL l (ts.drop i) = match pieceV l (nth ts (i : Nat)) with
    | some l2 => hlL l2 (ts.drop (i + 1))
    | none => l := by
  rw [List.drop_eq_getElem_cons hi, hlL, nth_nat hi]

/-- What is loaded of a disk. -/
def hload (room : Int) (l : List FileV) : List HeldV := hlL [] (jdL room l 1)

theorem spec_HeldLoad (k : Nat) (room : Int) (l : List FileV) (hb : bndFileS l) (ht : totFileS l ≤ 1048576) : CallsT Try.prog [] F.spec_HeldLoad [.agg [.v (.int .i64 room), .sl false k l.length 3 (rowT fileC l)]] (.ref 0 [] 0 (hload room l).length) [⟨4, true, rowT heldO (hload room l)⟩] := by
  have hsz := jdL_size (room := room) (l := l) (n := 1)
  have hln := jdL_len room l 1
  refine fnT C.spec_HeldLoad ?_
  refine run ?_
  unfold hload
  generalize jdL room l 1 = ts at *
  refine r_loop_of (σ := List HeldV × Nat) (fun t => [(3, .ref 0 [] 0 t.1.length), (4, .sl false 0 ts.length 1 (rowT strC ts)), (6, .v (.int .i64 ((t.2 : Nat))))]) (fun t => [⟨4, true, rowT heldO t.1⟩]) (fun t => hlL t.1 (ts.drop t.2) = hlL [] ts ∧ t.2 ≤ ts.length ∧ heldsP t.1) (fun t => ts.length - t.2) ([], 0) [1] [] ?_ Gc.of ?_
  · exact ⟨rfl, Nat.zero_le _, heldsP_nil⟩
  rintro ⟨o, i⟩ ⟨h1, h2, h3⟩
  dsimp only at h1 h2 h3 ⊢
  obtain ⟨hbo, hto⟩ := held_small h3
  refine run ?_
  refine r_ifd (fun hc => ?_) (fun hc => ?_)
  · have hi : i < ts.length := by omega
    have hs := hsz _ (nth_mem hi)
    rw [hlL_drop hi] at h1
    cases hv : pieceV o (nth ts (i : Nat)) with
    | some l2 =>
      rw [hv] at h1
      have hp := spec_PieceS o l2 (nth ts (i : Nat)) hbo hto h3 (by omega) hv
      refine run ?_
      refine r_callp true hp ?_
      refine run ?_
      exact ⟨(l2, i + 1), [1], [], Gc.of, by dsimp only; omega, h1, hi, piece_ok h3 hv⟩
    | none =>
      rw [hv] at h1
      have hp := spec_PieceN o (nth ts (i : Nat)) hbo hto h3 (by omega) hv
      rw [← h1]
      refine run ?_
      refine r_callp true hp ?_
      refine run ?_
      exact r_end [0] []
  · rw [show i = ts.length by omega, List.drop_length] at h1
    rw [← h1]
    refine run ?_
    exact r_end [0] []

theorem impl_HeldLoad (k : Nat) (room : Int) (l : List FileV) (hb : bndFileS l) (ht : totFileS l ≤ 1048576) : CallsT Try.prog [] F.impl_HeldLoad [.agg [.v (.int .i64 room), .sl false k l.length 3 (rowT fileC l)]] (.ref 0 [] 0 (hload room l).length) [⟨4, true, rowT heldO (hload room l)⟩] := by
  have hsz := jdL_size (room := room) (l := l) (n := 1)
  have hln := jdL_len room l 1
  refine fnT C.impl_HeldLoad ?_
  refine run ?_
  unfold hload
  generalize jdL room l 1 = ts at *
  refine r_loop_of (σ := List HeldV × Nat) (fun t => [(3, .ref 0 [] 0 t.1.length), (16, .sl false 0 ts.length 1 (rowT strC ts)), (17, .v (.int .i64 ts.length)), (18, .v (.int .i64 ((t.2 : Nat))))]) (fun t => [⟨4, true, rowT heldO t.1⟩]) (fun t => hlL t.1 (ts.drop t.2) = hlL [] ts ∧ t.2 ≤ ts.length ∧ heldsP t.1) (fun t => ts.length - t.2) ([], 0) [1] [] ?_ Gc.of ?_
  · exact ⟨rfl, Nat.zero_le _, heldsP_nil⟩
  rintro ⟨o, i⟩ ⟨h1, h2, h3⟩
  dsimp only at h1 h2 h3 ⊢
  obtain ⟨hbo, hto⟩ := held_small h3
  refine run ?_
  refine r_ifd (fun hc => ?_) (fun hc => ?_)
  · have hi : i < ts.length := by omega
    have hs := hsz _ (nth_mem hi)
    rw [hlL_drop hi] at h1
    cases hv : pieceV o (nth ts (i : Nat)) with
    | some l2 =>
      rw [hv] at h1
      have hp := impl_heldByS o l2 (nth ts (i : Nat)) hbo hto h3 (by omega) hv
      refine run ?_
      refine r_callp true hp ?_
      refine run ?_
      exact ⟨(l2, i + 1), [1], [], Gc.of, by dsimp only; omega, h1, hi, piece_ok h3 hv⟩
    | none =>
      rw [hv] at h1
      have hp := impl_heldByN o (nth ts (i : Nat)) hbo hto h3 (by omega) hv
      rw [← h1]
      refine run ?_
      refine r_callp true hp ?_
      refine run ?_
      exact r_end [0] []
  · rw [show i = ts.length by omega, List.drop_length] at h1
    rw [← h1]
    refine run ?_
    exact r_end [0] []

end Go.TL

/- What a journal of a list's records is loaded as, in plain words. No conditions. -/
namespace Go.TL
set_option linter.unusedSimpArgs false
open Go.Proofs Go.RowKit
attribute [local irreducible] wpOpsT wpT EndT Ex.seq Ex.block W

/-! ### What is sealed is unsealed -/
theorem sum4_bytes {x : Int} (h : 0 ≤ x ∧ x < 4294967296) : bytesP (sum4 x) := fun y hy => by
  simp only [sum4, List.mem_cons, List.not_mem_nil, or_false] at hy
  omega
theorem sealB_bytes {l : List Int} (h : bytesP l) : bytesP (sealB l) :=
  bytesP_app (bytesP_app (putNum_bytes _ _ (by omega)) h) (sum4_bytes (sumL_b h))
theorem sealsB_bytes : ∀ ts : List ByteArray, bytesP (sealsB ts)
  | [] => fun x hx => by simp [sealsB] at hx
  | s :: ts => bytesP_app (sealB_bytes (bytesP_str s)) (sealsB_bytes ts)
theorem cut_mid {p l r : List Int} : cutL (p ++ l ++ r) p.length ((p.length + l.length : Nat) : Int) = l := by
  unfold cutL
  rw [Int.toNat_natCast, Int.toNat_natCast, List.append_assoc, List.drop_left, Nat.add_sub_cancel_left, List.take_left]

/-- What is sealed is read at its place. -/
theorem un_seal {p l r b : List Int} (hb : b = p ++ sealB l ++ r) (_hl : bytesP l) (hn : l.length ≤ 3000) (hB : bytesP b) :
    unC b p.length = 0 ∧ unI b p.length = l ∧ unE b p.length + 4 = ((p ++ sealB l).length : Nat) := by
  have e1 : b = p ++ putNumL 10 l.length ++ (l ++ sum4 (sumL l) ++ r) := by rw [hb, sealB]; simp only [List.append_assoc]
  obtain ⟨g1, g2, g3⟩ := gn_put (p := p) (b := b) (r := l ++ sum4 (sumL l) ++ r) (x := l.length) (by omega) (by omega) e1
  have hlen : ((p ++ sealB l).length : Int) = ((p ++ putNumL 10 l.length).length : Nat) + l.length + 4 := by
    unfold sealB sum4
    simp only [List.length_append, List.length_cons, List.length_nil]
    push_cast
    omega
  have hbl : (b.length : Int) = ((p ++ putNumL 10 l.length).length : Nat) + l.length + 4 + r.length := by
    rw [hb, List.length_append]
    push_cast at hlen ⊢
    omega
  have hE : unE b p.length = ((p ++ putNumL 10 l.length).length + l.length : Nat) := by
    unfold unE; rw [g2, g3]; push_cast; rfl
  have hI : unI b p.length = l := by
    unfold unI
    rw [g2, g3]
    have e2 : b = (p ++ putNumL 10 l.length) ++ l ++ (sum4 (sumL l) ++ r) := by rw [e1]; simp only [List.append_assoc]
    rw [e2]
    exact cut_mid
  have hS : unS b p.length := by
    refine (unS_str hB (a := p.length) ⟨by rw [hE]; omega, by rw [hE]; omega⟩).2 ?_
    rw [hI, hE]
    congr 1
    have e3 : b = (p ++ putNumL 10 l.length ++ l) ++ sum4 (sumL l) ++ r := by rw [e1]; simp only [List.append_assoc]
    have h4 := cut_mid (p := p ++ putNumL 10 l.length ++ l) (l := sum4 (sumL l)) (r := r)
    rw [← e3, List.length_append] at h4
    exact h4
  refine ⟨?_, hI, ?_⟩
  · unfold unC
    rw [if_neg (fun h => h.elim (fun k => k g1) (fun k => by rw [g2] at k; omega)), if_neg (by rw [g2, g3]; omega), if_neg (fun k => k hS)]
  · rw [hE, hlen]; push_cast; rfl

theorem jr_seals : ∀ (ts : List ByteArray) (p : List Int) (k : Nat), (∀ s ∈ ts, s.size ≤ 3000) → bytesP p → ts.length ≤ k → jrL (p ++ sealsB ts) k p.length = ts
  | [], p, k, _, hp, _ => by
    rw [show sealsB [] = [] from rfl, List.append_nil]
    exact (jrL_end (.inr (unC_end hp (Int.le_refl _)))).1
  | s :: ts, p, 0, _, _, hk => by simp at hk
  | s :: ts, p, k + 1, hs, hp, hk => by
    have hbs := bytesP_str s
    have h1 := hs s (.head _)
    have e : p ++ sealsB (s :: ts) = p ++ sealB (strL s) ++ sealsB ts := by rw [List.append_assoc]; rfl
    obtain ⟨u1, u2, u3⟩ := un_seal (b := p ++ sealsB (s :: ts)) e hbs (by rw [strL_length]; exact h1) (bytesP_app hp (sealsB_bytes _))
    rw [jrL, if_pos u1, u2, u3, strOf_LJ]
    congr 1
    have ih := jr_seals ts (p ++ sealB (strL s)) k (fun t ht => hs t (.tail _ ht)) (bytesP_app hp (sealB_bytes hbs)) (by simp at hk; omega)
    rw [e]
    exact ih

/-! ### What the pieces say -/
theorem pieceNew_read {r n : Int} {d s : ByteArray} (h : pieceNewB r n d = s) (hs : 0 < s.size) : pOk s ∧ pk s = 1 ∧ pr s = r ∧ pn s = n ∧ pd s = d := by
  unfold pieceNewB at h
  split at h
  · rename_i hc
    obtain ⟨⟨hn, hd⟩, hr⟩ := hc
    have hb : bytesP ([1, r, n].flatMap (putNumL 10)) := by
      simp only [List.flatMap_cons, List.flatMap_nil, List.append_nil]
      exact bytesP_app (putNum_bytes _ _ (by omega)) (bytesP_app (putNum_bytes _ _ (by omega)) (putNum_bytes _ _ (by omega)))
    have e : strL s = putNumL 10 1 ++ putNumL 10 r ++ putNumL 10 n ++ strL d := by
      rw [← h, show strL (strOfT ([1, r, n].flatMap (putNumL 10)) ++ d) = strL (strOfT ([1, r, n].flatMap (putNumL 10))) ++ strL d from by unfold strL; rw [ByteArray.data_append, Array.toList_append, List.map_append], strL_ofJ hb]
      simp only [List.flatMap_cons, List.flatMap_nil, List.append_nil, List.append_assoc]
    have g0 := gn_put (p := []) (b := strL s) (r := putNumL 10 r ++ putNumL 10 n ++ strL d) (x := 1) (by decide) (by decide) (by rw [e]; simp only [List.nil_append, List.append_assoc])
    have g1 := gn_put (p := putNumL 10 1) (b := strL s) (r := putNumL 10 n ++ strL d) (x := r) (by omega) (by omega) (by rw [e]; simp only [List.append_assoc])
    have g2 := gn_put (p := putNumL 10 1 ++ putNumL 10 r) (b := strL s) (r := strL d) (x := n) (by omega) (by omega) (by rw [e])
    rw [show ((([] : List Int).length : Nat) : Int) = 0 from rfl, List.nil_append] at g0
    have a1 : gnA (strL s) 0 = (putNumL 10 1).length := g0.2.2
    have a2 : gnA (strL s) (gnA (strL s) 0) = (putNumL 10 1 ++ putNumL 10 r).length := by rw [a1]; exact g1.2.2
    have a3 : pe s = (putNumL 10 1 ++ putNumL 10 r ++ putNumL 10 n).length := by rw [pe, a2]; exact g2.2.2
    refine ⟨⟨g0.1, by rw [a1]; exact g1.1, by rw [a2]; exact g2.1⟩, g0.2.1, by rw [pr, a1]; exact g1.2.1, by rw [pn, a2]; exact g2.2.1, ?_⟩
    have hz : s.size = (putNumL 10 1 ++ putNumL 10 r ++ putNumL 10 n).length + (strL d).length := by rw [← strL_length s, e, List.length_append]
    have hc := strOf_cutL s (pe s) ((s.size : Nat) : Int)
    rw [Int.toNat_natCast] at hc
    rw [pd, ← hc, a3, e, hz]
    have hm := cut_mid (p := putNumL 10 1 ++ putNumL 10 r ++ putNumL 10 n) (l := strL d) (r := [])
    rw [List.append_nil] at hm
    rw [hm, strOf_LJ]
  · rw [← h] at hs
    exact absurd hs (by decide)

end Go.TL

/- The records of a list are loaded as the list, in plain words. No conditions. -/
namespace Go.TL
set_option linter.unusedSimpArgs false
open Go.Proofs Go.RowKit
attribute [local irreducible] wpOpsT wpT EndT Ex.seq Ex.block W

theorem nthE {α : Type} [Inhabited α] (a : List α) (x : α) (r : List α) : nth (a ++ x :: r) (a.length : Nat) = x := by
  rw [nth_nat (by simp)]; simp
theorem setE {α : Type} (a : List α) (x y : α) (r : List α) : (a ++ x :: r).set a.length y = a ++ y :: r := by
  rw [List.set_append_right _ _ (Nat.le_refl _), Nat.sub_self]; rfl
theorem insS_end {y : HeldV} : ∀ {l : List HeldV}, (∀ x ∈ l, x.rel < y.rel) → insS y l = l ++ [y]
  | [], _ => rfl
  | x :: l, h => by
    rw [insS, if_pos (h x (.head _)), insS_end fun z hz => h z (.tail _ hz)]; rfl
theorem srt_last {A : List HeldV} {h : HeldV} {r : List HeldV} (hs : srtH (A ++ h :: r)) : ∀ x ∈ A, x.rel < h.rel := fun x hx =>
  (List.pairwise_append.1 hs).2.2 x hx h (.head _)

/-- A list's beginning is right. -/
theorem held_front {A B : List HeldV} (h : heldsP (A ++ B)) : heldsP A := by
  obtain ⟨h1, h2, h3⟩ := heldsP_iff.1 h
  rw [List.length_append] at h1
  exact heldsP_iff.2 ⟨by omega, fun x hx => h2 x (List.mem_append_left _ hx), (List.pairwise_append.1 h3).1⟩

theorem step_new {A : List HeldV} {h : HeldV} (hh : heldsP (A ++ [h])) : pieceV A (pieceNewB h.rel h.size h.dig) = some (A ++ [newV h.rel h.size h.dig]) := by
  obtain ⟨h1, h2, h3⟩ := heldsP_iff.1 hh
  rw [List.length_append, List.length_singleton] at h1
  have hx := h2 h (by simp)
  have hn : newOk h.size h.dig := ⟨hx.2.1, hx.2.2.1⟩
  have hA := held_front hh
  have hlt := srt_last h3
  have hsz : 0 < (pieceNewB h.rel h.size h.dig).size := by
    rw [pieceNewB, if_pos ⟨hn, hx.1⟩, ByteArray.size_append, hn.2]; omega
  obtain ⟨p1, p2, p3, p4, p5⟩ := pieceNew_read rfl hsz
  have hput : putL (newV h.rel h.size h.dig) A = A ++ [newV h.rel h.size h.dig] := by
    rw [putL_ins (heldsP_iff.1 hA).2.2]
    exact insS_end fun x hx => hlt x hx
  have hok : heldsP (A ++ [newV h.rel h.size h.dig]) := by
    have := (new_ok (r := h.rel) hA hn).2 ⟨hx.1, fun k => by have := k.2; omega⟩
    rwa [show insS (newV h.rel h.size h.dig) A = A ++ [newV h.rel h.size h.dig] from insS_end fun x hx => hlt x hx] at this
  have hnew : newH A h.rel h.size h.dig = (A ++ [newV h.rel h.size h.dig], true) := by
    rw [newH_eq hA hn, hput, if_pos hok, decide_eq_true hok]
  rw [pieceV, if_pos p1, if_pos p2, p3, p4, p5, if_pos rfl, hnew]
  rfl

/-- What a part's piece says of itself, all of it. -/
theorem piecePut_full {r i : Int} {p s : ByteArray} (h : piecePutB r i p = s) (hc : (1 ≤ r ∧ r ≤ 1000) ∧ (0 ≤ i ∧ i ≤ 1000) ∧ 1 ≤ p.size ∧ p.size ≤ 16) :
    pOk s ∧ pk s = 2 ∧ pr s = r ∧ pn s = i ∧ txO (strL s) (pe s) ∧ txV (strL s) (pe s) = p := by
  rw [piecePutB, if_pos hc] at h
  have hb : bytesP ([2, r, i].flatMap (putNumL 10) ++ textL p) := by
    refine bytesP_app ?_ (bytesP_app (putNum_bytes _ _ (by omega)) (bytesP_str p))
    simp only [List.flatMap_cons, List.flatMap_nil, List.append_nil]
    exact bytesP_app (putNum_bytes _ _ (by omega)) (bytesP_app (putNum_bytes _ _ (by omega)) (putNum_bytes _ _ (by omega)))
  have hl : strL s = [2, r, i].flatMap (putNumL 10) ++ textL p := by rw [← h, strL_ofJ hb]
  have e : strL s = putNumL 10 2 ++ putNumL 10 r ++ putNumL 10 i ++ putNumL 10 p.size ++ strL p := by
    rw [hl, textL]; simp only [List.flatMap_cons, List.flatMap_nil, List.append_nil, List.append_assoc]
  have g0 := gn_put (p := []) (b := strL s) (r := putNumL 10 r ++ putNumL 10 i ++ putNumL 10 p.size ++ strL p) (x := 2) (by decide) (by decide) (by rw [e]; simp only [List.nil_append, List.append_assoc])
  have g1 := gn_put (p := putNumL 10 2) (b := strL s) (r := putNumL 10 i ++ putNumL 10 p.size ++ strL p) (x := r) (by omega) (by omega) (by rw [e]; simp only [List.append_assoc])
  have g2 := gn_put (p := putNumL 10 2 ++ putNumL 10 r) (b := strL s) (r := putNumL 10 p.size ++ strL p) (x := i) (by omega) (by omega) (by rw [e]; simp only [List.append_assoc])
  have g3 := gn_put (p := putNumL 10 2 ++ putNumL 10 r ++ putNumL 10 i) (b := strL s) (r := strL p) (x := p.size) (by omega) (by omega) (by rw [e])
  rw [show ((([] : List Int).length : Nat) : Int) = 0 from rfl, List.nil_append] at g0
  have a1 : gnA (strL s) 0 = (putNumL 10 2).length := g0.2.2
  have a2 : gnA (strL s) (gnA (strL s) 0) = (putNumL 10 2 ++ putNumL 10 r).length := by rw [a1]; exact g1.2.2
  have a3 : pe s = (putNumL 10 2 ++ putNumL 10 r ++ putNumL 10 i).length := by rw [pe, a2]; exact g2.2.2
  have hlen : (strL s).length = (putNumL 10 2 ++ putNumL 10 r ++ putNumL 10 i ++ putNumL 10 p.size).length + (strL p).length := by rw [e, List.length_append]
  have hpl := strL_length p
  have ht : txO (strL s) (pe s) := by
    rw [a3]
    exact ⟨g3.1, by rw [g3.2.1]; omega, by rw [g3.2.1, g3.2.2]; omega⟩
  refine ⟨⟨g0.1, by rw [a1]; exact g1.1, by rw [a2]; exact g2.1⟩, g0.2.1, by rw [pr, a1]; exact g1.2.1, by rw [pn, a2]; exact g2.2.1, ht, ?_⟩
  rw [txV, if_pos ht, a3, g3.2.1, g3.2.2]
  have hm := cut_mid (p := putNumL 10 2 ++ putNumL 10 r ++ putNumL 10 i ++ putNumL 10 p.size) (l := strL p) (r := [])
  rw [List.append_nil, ← e, hpl] at hm
  rw [show ((putNumL 10 2 ++ putNumL 10 r ++ putNumL 10 i ++ putNumL 10 p.size).length : Int) + (p.size : Int) = (((putNumL 10 2 ++ putNumL 10 r ++ putNumL 10 i ++ putNumL 10 p.size).length + p.size : Nat) : Int) by push_cast; rfl, hm, strOf_LJ]

theorem step_put {A : List HeldV} {r sz : Int} {d : ByteArray} {P : List ByteArray} {k : Nat} {s : ByteArray} (hh : heldsP (A ++ [⟨r, sz, d, P⟩])) (hk : k < P.length) (he : nth P (k : Nat) = ⟨#[]⟩) (hs : (s.size : Int) = min 16 (sz - k * 16)) (h0 : s ≠ ⟨#[]⟩) :
    pieceV (A ++ [⟨r, sz, d, P⟩]) (piecePutB r k s) = some (A ++ [⟨r, sz, d, P.set k s⟩]) := by
  obtain ⟨h1, h2, h3⟩ := heldsP_iff.1 hh
  have hx := h2 ⟨r, sz, d, P⟩ (by simp)
  dsimp only at hx
  have hpar := hx.2
  have hpl := hpar.2.2.1
  have hpn := partsN_b sz
  have hsz : 1 ≤ s.size := by
    rcases Nat.eq_zero_or_pos s.size with h | h
    · exact absurd (ByteArray.ext (Array.eq_empty_of_size_eq_zero h)) h0
    · exact h
  obtain ⟨p1, p2, p3, p4, p5, p6⟩ := piecePut_full (r := r) (i := (k : Nat)) (p := s) rfl ⟨hx.1, by omega, by omega, by omega⟩
  have hlt := srt_last h3
  have hf : findH (A ++ [⟨r, sz, d, P⟩]) r = (A.length : Nat) := by
    refine find_at (by simp) (by rw [nthE]) fun j hj => ?_
    have hj2 : j < (A ++ [(⟨r, sz, d, P⟩ : HeldV)]).length := by simp; omega
    have := hlt A[j] (List.getElem_mem hj)
    rw [nth_nat hj2, List.getElem_append_left hj]
    exact Int.ne_of_lt this
  have hpp : putP sz d P (k : Nat) s = (⟨sz, d, P.set k s⟩, 0) := by
    rw [putP, if_pos ⟨hpar, by omega, hs⟩, he, if_neg (fun h => h0 h.symm), if_neg (fun h => h rfl), Int.toNat_natCast]
  have hput : putH (A ++ [⟨r, sz, d, P⟩]) r (k : Nat) s = (A ++ [⟨r, sz, d, P.set k s⟩], 0) := by
    rw [putH, hf, if_neg (by omega), nthE]
    dsimp only
    rw [hpp, if_pos rfl, Int.toNat_natCast, setE]
  rw [pieceV, if_pos p1, if_neg (by rw [p2]; decide), if_pos ⟨p2, p5, by rw [p3, p4, p6]⟩, p3, p4, p6, hput]
  rfl

/-- The pieces of a list. -/
def partR (r : Int) (P : List ByteArray) (j : Nat) : List ByteArray := (List.range j).flatMap fun i => if nth P (i : Nat) = ⟨#[]⟩ then [] else [piecePutB r (i : Nat) (nth P (i : Nat))]
theorem partR_s (r : Int) (P : List ByteArray) (j : Nat) : partR r P (j + 1) = partR r P j ++ (if nth P (j : Nat) = ⟨#[]⟩ then [] else [piecePutB r (j : Nat) (nth P (j : Nat))]) := by
  rw [partR, List.range_succ, List.flatMap_append]; simp [partR]
def recH (h : HeldV) : List ByteArray := pieceNewB h.rel h.size h.dig :: partR h.rel h.parts h.parts.length
def recsL (l : List HeldV) : List ByteArray := l.flatMap recH

/-- A parcel of which the first parts are there. -/
def mixP (P : List ByteArray) (j : Nat) : List ByteArray := P.take j ++ List.replicate (P.length - j) ⟨#[]⟩
theorem mixP_len {P : List ByteArray} {j : Nat} (h : j ≤ P.length) : (mixP P j).length = P.length := by
  rw [mixP, List.length_append, List.length_take, List.length_replicate]; omega
theorem mixP_at {P : List ByteArray} {j i : Nat} (h : j ≤ P.length) (hi : i < P.length) : nth (mixP P j) (i : Nat) = if i < j then nth P (i : Nat) else ⟨#[]⟩ := by
  have hl : i < (P.take j ++ List.replicate (P.length - j) (⟨#[]⟩ : ByteArray)).length := by
    have := mixP_len h
    unfold mixP at this
    omega
  show nth (P.take j ++ List.replicate (P.length - j) (⟨#[]⟩ : ByteArray)) (i : Nat) = _
  rw [nth_nat hl]
  split
  · rename_i hij
    rw [List.getElem_append_left (by rw [List.length_take]; omega), List.getElem_take, nth_nat hi]
  · rw [List.getElem_append_right (by rw [List.length_take]; omega), List.getElem_replicate]
theorem mixP_ok {sz : Int} {d : ByteArray} {P : List ByteArray} {j : Nat} (h : parcelP sz d P) (hj : j ≤ P.length) : parcelP sz d (mixP P j) := by
  obtain ⟨h1, h2, h3, h4⟩ := h
  refine ⟨h1, h2, by rw [mixP_len hj]; exact h3, fun i hi => ?_⟩
  rw [mixP_len hj] at hi
  have := h4 i hi
  unfold partP at this ⊢
  rw [mixP_at hj hi]
  split
  · exact this
  · exact .inl rfl
theorem mixP_s {P : List ByteArray} {j : Nat} (h : j < P.length) : (mixP P j).set j (nth P (j : Nat)) = mixP P (j + 1) := by
  refine ext_nth (by rw [List.length_set, mixP_len (by omega), mixP_len (by omega)]) fun i hi => ?_
  rw [List.length_set, mixP_len (by omega)] at hi
  have hl : i < (mixP P j).length := by rw [mixP_len (by omega)]; exact hi
  rw [nth_nat (by rw [List.length_set]; exact hl), List.getElem_set, ← nth_nat hl, mixP_at (by omega) hi, mixP_at (by omega) hi]
  by_cases e : j = i
  · subst e
    rw [if_pos rfl, if_pos (by omega)]
  · rw [if_neg e]
    by_cases h2 : i < j
    · rw [if_pos h2, if_pos (by omega)]
    · rw [if_neg h2, if_neg (by omega)]

theorem parts_load {A : List HeldV} {h : HeldV} (hh : heldsP (A ++ [h])) (rest : List ByteArray) : ∀ j, j ≤ h.parts.length → hlL (A ++ [⟨h.rel, h.size, h.dig, mixP h.parts 0⟩]) (partR h.rel h.parts j ++ rest) = hlL (A ++ [⟨h.rel, h.size, h.dig, mixP h.parts j⟩]) rest := by
  intro j
  induction j generalizing rest with
  | zero => intro _; rfl
  | succ j ih =>
    intro hj
    have hx := (heldsP_iff.1 hh).2.1 h (by simp)
    have hm := mixP_ok hx.2 (j := j) (by omega)
    have hok : heldsP (A ++ [⟨h.rel, h.size, h.dig, mixP h.parts j⟩]) := by
      have := set_same (l := A ++ [h]) (n := A.length) (x := ⟨h.rel, h.size, h.dig, mixP h.parts j⟩) hh (by simp) (by rw [nthE]) hm
      rwa [setE] at this
    have hp := hx.2.2.2.2 j (by omega)
    have hat : nth (mixP h.parts j) (j : Nat) = ⟨#[]⟩ := by rw [mixP_at (by omega) (by omega), if_neg (by omega)]
    rw [partR_s, List.append_assoc, ih _ (by omega), ← mixP_s (by omega)]
    by_cases he : nth h.parts (j : Nat) = ⟨#[]⟩
    · have hsame : (mixP h.parts j).set j ⟨#[]⟩ = mixP h.parts j := by
        refine ext_nth (by rw [List.length_set]) fun i hi => ?_
        have hi2 : i < (mixP h.parts j).length := by rw [List.length_set] at hi; exact hi
        rw [nth_nat hi, List.getElem_set, ← nth_nat hi2]
        split
        · rename_i e; subst e; exact hat.symm
        · rfl
      rw [if_pos he, he, List.nil_append, hsame]
    · rw [if_neg he, List.singleton_append, hlL, step_put hok (by rw [mixP_len (by omega)]; omega) hat (hp.resolve_left he) he]

theorem hload_all : ∀ (B A : List HeldV), heldsP (A ++ B) → hlL A (recsL B) = A ++ B
  | [], A, _ => by rw [List.append_nil]; rfl
  | h :: B, A, hh => by
    have e : A ++ h :: B = (A ++ [h]) ++ B := by rw [List.append_assoc]; rfl
    rw [e] at hh ⊢
    have h1 := held_front hh
    have hx := (heldsP_iff.1 h1).2.1 h (by simp)
    have hnv : newV h.rel h.size h.dig = ⟨h.rel, h.size, h.dig, mixP h.parts 0⟩ := by
      have hn : newOk h.size h.dig := ⟨hx.2.1, hx.2.2.1⟩
      have hl := hx.2.2.2.1
      unfold newV newP mixP
      rw [if_pos hn, List.take_zero, List.nil_append, Nat.sub_zero, ← hl, Int.toNat_natCast]
    have hfull : mixP h.parts h.parts.length = h.parts := by
      unfold mixP
      rw [List.take_length, Nat.sub_self, List.replicate_zero, List.append_nil]
    rw [show recsL (h :: B) = pieceNewB h.rel h.size h.dig :: (partR h.rel h.parts h.parts.length ++ recsL B) from rfl, hlL, step_new h1]
    show hlL (A ++ [newV h.rel h.size h.dig]) _ = _
    rw [hnv, parts_load h1 _ _ (Nat.le_refl _), hfull]
    exact hload_all B (A ++ [h]) hh

end Go.TL
