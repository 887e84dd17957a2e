/- Texts joined. No conditions but those that are written. -/
import Derived.Test.YtneiifghegdfgaaJH1J3
import Derived.Test.YtneiifghegdfgaaJP2P3
import Derived.Test.YtneiifghegdfgaaL25
/- A number is read from its own bytes; what a piece makes of a list, in plain words. No conditions but those that are written. -/
namespace Go.TL
set_option linter.unusedSimpArgs false
open Go.Proofs Go.RowKit
attribute [local irreducible] wpOpsT wpT EndT Ex.seq Ex.block W

theorem nth_dropc {b r : List Int} {c : Int} {m : Nat} (h : b.drop m = c :: r) : m < b.length ∧ nth b (m : Nat) = c ∧ b.drop (m + 1) = r := by
  have hl : m < b.length := by
    rcases Nat.lt_or_ge m b.length with h1 | h1
    · exact h1
    · rw [List.drop_eq_nil_of_le h1] at h; cases h
  rw [List.drop_eq_getElem_cons hl] at h
  injection h with h1 h2
  exact ⟨hl, by rw [nth_nat hl]; exact h1, h2⟩

theorem getL_put {b r : List Int} {a : Nat} : ∀ (k k' i : Nat) (x acc : Int), k < k' → 0 ≤ x → x < 128 ^ k → (0 < i → 0 < x) → b.drop (a + i) = putNumL k' x ++ r → (k = 0 → 0 < x) → getL b a k i acc = some (acc + x * 128 ^ i, (a : Int) + i + (putNumL k' x).length)
  | 0, _, _, x, _, _, h0, h1, _, _, h2 => by have := h2 rfl; simp at h1; omega
  | k + 1, 0, _, _, _, h, _, _, _, _, _ => absurd h (by omega)
  | k + 1, k' + 1, i, x, acc, hk, h0, h1, hi, hd, _ => by
    unfold putNumL at hd ⊢
    rw [Int.pow_succ] at h1
    by_cases hx : 127 < x
    · rw [if_pos hx] at hd ⊢
      obtain ⟨hl, hn, ht⟩ := nth_dropc hd
      have hn' : nth b ((a : Int) + i) = x % 128 + 128 := by rw [← hn]; congr 1
      have ih := getL_put (a := a) (b := b) (r := r) k k' (i + 1) (x / 128) (acc + x % 128 * 128 ^ i) (by omega) (by omega) (by omega) (fun _ => by omega) ht (fun _ => by omega)
      unfold getL
      rw [if_pos hl, hn', if_pos (by omega), show (x % 128 + 128) % 128 = x % 128 by omega, ih]
      have e : x * 128 ^ i = x % 128 * 128 ^ i + x / 128 * 128 ^ (i + 1) := by
        rw [Int.pow_succ, Int.mul_comm (128 ^ i) 128, ← Int.mul_assoc, ← Int.add_mul]
        congr 1; omega
      rw [e, List.length_cons]
      congr 2
      · omega
      · push_cast; omega
    · rw [if_neg hx] at hd ⊢
      obtain ⟨hl, hn, _⟩ := nth_dropc hd
      have hn' : nth b ((a : Int) + i) = x := by rw [← hn]; congr 1
      unfold getL
      rw [if_pos hl, hn', if_neg hx, if_neg (by omega), show x % 128 = x by omega]
      congr 2

/-- A number is read from its own bytes. -/
theorem gn_put {p b r : List Int} {x : Int} (h0 : 0 ≤ x) (h1 : x < 9223372036854775808) (hb : b = p ++ putNumL 10 x ++ r) : gnO b p.length ∧ gnX b p.length = x ∧ gnA b p.length = ((p ++ putNumL 10 x).length : Nat) := by
  have h := getL_put (b := b) (r := r) (a := p.length) 9 10 0 x 0 (by decide) h0 (by omega) (fun h => absurd h (by decide)) (by rw [hb, List.append_assoc, Nat.add_zero, List.drop_left]) (fun h => absurd h (by decide))
  have hg := gn_some (b := b) (a := (p.length : Nat)) (x := x) (y := ((p ++ putNumL 10 x).length : Nat)) (by
    rw [getN, if_neg (by omega), Int.toNat_natCast, h]
    congr 2
    · simp
    · rw [List.length_append]; push_cast; omega)
  exact ⟨hg.2.2, hg.1, hg.2.1⟩

theorem putNum_bytes : ∀ (k : Nat) (x : Int), 0 ≤ x → bytesP (putNumL k x)
  | 0, _, _ => fun y hy => by simp [putNumL] at hy
  | k + 1, x, h => fun y hy => by
    unfold putNumL at hy
    split at hy
    · rcases List.mem_cons.1 hy with rfl | hy
      · omega
      · exact putNum_bytes k (x / 128) (by omega) y hy
    · rw [List.mem_singleton] at hy; omega
theorem bytesP_app {a b : List Int} (h : bytesP a) (h2 : bytesP b) : bytesP (a ++ b) := fun x hx => (List.mem_append.1 hx).elim (h x) (h2 x)

/-- What a part's piece says of itself. -/
theorem piecePut_read {r i : Int} {p s : ByteArray} (h : piecePutB r i p = s) (hs : 0 < s.size) :
    gnX (strL s) 0 = 2 ∧ gnX (strL s) (gnA (strL s) (gnA (strL s) (gnA (strL s) 0))) = p.size ∧ gnA (strL s) (gnA (strL s) (gnA (strL s) (gnA (strL s) 0))) + p.size = (strL s).length := by
  unfold piecePutB at h
  split at h
  · rename_i hc
    have hb : bytesP ([2, r, i].flatMap (putNumL 10) ++ textL p) := by
      refine bytesP_app ?_ (bytesP_app (putNum_bytes _ _ (by omega)) (bytesP_str p))
      simp only [List.flatMap_cons, List.flatMap_nil, List.append_nil]
      exact bytesP_app (putNum_bytes _ _ (by omega)) (bytesP_app (putNum_bytes _ _ (by omega)) (putNum_bytes _ _ (by omega)))
    have hl : strL s = [2, r, i].flatMap (putNumL 10) ++ textL p := by rw [← h, strL_ofJ hb]
    have e : strL s = putNumL 10 2 ++ putNumL 10 r ++ putNumL 10 i ++ putNumL 10 p.size ++ strL p := by
      rw [hl, textL]; simp only [List.flatMap_cons, List.flatMap_nil, List.append_nil, List.append_assoc]
    have g0 := gn_put (p := []) (b := strL s) (r := putNumL 10 r ++ putNumL 10 i ++ putNumL 10 p.size ++ strL p) (x := 2) (by decide) (by decide) (by rw [e]; simp only [List.nil_append, List.append_assoc])
    have g1 := gn_put (p := putNumL 10 2) (b := strL s) (r := putNumL 10 i ++ putNumL 10 p.size ++ strL p) (x := r) (by omega) (by omega) (by rw [e]; simp only [List.append_assoc])
    have g2 := gn_put (p := putNumL 10 2 ++ putNumL 10 r) (b := strL s) (r := putNumL 10 p.size ++ strL p) (x := i) (by omega) (by omega) (by rw [e]; simp only [List.append_assoc])
    have g3 := gn_put (p := putNumL 10 2 ++ putNumL 10 r ++ putNumL 10 i) (b := strL s) (r := strL p) (x := p.size) (by omega) (by omega) (by rw [e])
    rw [show ((([] : List Int).length : Nat) : Int) = 0 from rfl, List.nil_append] at g0
    refine ⟨g0.2.1, ?_⟩
    rw [g0.2.2, g1.2.2, g2.2.2, g3.2.1, g3.2.2]
    refine ⟨rfl, ?_⟩
    have := congrArg List.length e
    rw [List.length_append, strL_length p] at this
    omega
  · rw [← h] at hs
    exact absurd hs (by decide)
theorem pieceNew_dig {r n : Int} {d s : ByteArray} (h : pieceNewB r n d = s) (hs : 0 < s.size) : d.size = 32 := by
  unfold pieceNewB at h
  split at h
  · rename_i hc
    exact hc.1.2
  · rw [← h] at hs
    exact absurd hs (by decide)

/-- The three numbers that a piece begins with, and where they end. -/
abbrev pk (s : ByteArray) : Int := gnX (strL s) 0
abbrev pr (s : ByteArray) : Int := gnX (strL s) (gnA (strL s) 0)
abbrev pn (s : ByteArray) : Int := gnX (strL s) (gnA (strL s) (gnA (strL s) 0))
abbrev pe (s : ByteArray) : Int := gnA (strL s) (gnA (strL s) (gnA (strL s) 0))
def pOk (s : ByteArray) : Prop := gnO (strL s) 0 ∧ gnO (strL s) (gnA (strL s) 0) ∧ gnO (strL s) (gnA (strL s) (gnA (strL s) 0))
instance (s : ByteArray) : Decidable (pOk s) := inferInstanceAs (Decidable (_ ∧ _))
abbrev pd (s : ByteArray) : ByteArray := s.extract (pe s).toNat s.size

/-- What a piece makes of a list; none: it is refused. -/
def pieceV (l : List HeldV) (s : ByteArray) : Option (List HeldV) :=
  if pOk s then
    if pk s = 1 then
      if pieceNewB (pr s) (pn s) (pd s) = s then (if (newH l (pr s) (pn s) (pd s)).2 = true then some (newH l (pr s) (pn s) (pd s)).1 else none) else none
    else if pk s = 2 ∧ txO (strL s) (pe s) ∧ piecePutB (pr s) (pn s) (txV (strL s) (pe s)) = s then
      (if (putH l (pr s) (pn s) (txV (strL s) (pe s))).2 = 0 ∨ (putH l (pr s) (pn s) (txV (strL s) (pe s))).2 = 2 then some (putH l (pr s) (pn s) (txV (strL s) (pe s))).1 else none)
    else none
  else none

theorem gnO_size {s : ByteArray} {a : Int} (h : gnO (strL s) a) : 0 < s.size := by
  have := gn_b (bytesP_str s) h
  rw [strL_length] at this
  omega

end Go.TL

/- What a piece makes of a list, by the reference. No conditions but those that are written. -/
namespace Go.TL
set_option linter.unusedSimpArgs false
open Go.Proofs Go.RowKit
attribute [local irreducible] wpOpsT wpT EndT Ex.seq Ex.block W

theorem wk_no (t : T) (b : Bool) : Wk (.tup [t, .v (.bool b)]) (.tup [.dead, .v (.bool b)]) :=
  .tup rfl fun i x y hx hy => by
    match i with
    | 0 => simp only [List.getElem?_cons_zero, Option.some.injEq] at hx hy; subst hx; subst hy; exact .dead _
    | 1 => simp only [List.getElem?_cons_succ, List.getElem?_cons_zero, Option.some.injEq] at hx hy; subst hx; subst hy; exact .refl _
    | n + 2 => simp at hx

theorem txV_size {b : List Int} (hb : bytesP b) (a : Int) : (txV b a).size ≤ 140737488351232 := by
  unfold txV
  split
  · rename_i h
    have hg := gn_b hb h.1
    have h2 := h.2
    rw [strOf_size]
    have := cutL_len b (lo := gnA b a) (hi := gnA b a + gnX b a) ⟨by omega, by omega, by omega⟩
    omega
  · decide

/-- Where a piece is refused. -/
theorem spec_PieceN (l : List HeldV) (s : ByteArray) (hb : bndHS l) (ht : totHS l ≤ 1048576) (hok : heldsP l) (hs : s.size ≤ 140737488351232) (hv : pieceV l s = none) :
    CallsT Try.prog [] F.spec_l14Piece [.sl false 1 l.length 4 (rowT heldC l), .v (.string s)] (.tup [.dead, .v (.bool false)]) [] := by
  have hbs := bytesP_str s
  have hl := strL_length s
  have a1 := gnA_b hbs 0
  have a2 := gnA_b hbs (gnA (strL s) 0)
  have a3 := gnA_b hbs (gnA (strL s) (gnA (strL s) 0))
  have hz : (s.extract (gnA (strL s) (gnA (strL s) (gnA (strL s) 0))).toNat s.size).size ≤ 140737488351232 := by
    rw [ByteArray.size_extract]; omega
  have htx := txV_size hbs (gnA (strL s) (gnA (strL s) (gnA (strL s) 0)))
  have hsp := spec_HeldNewO l (pr s) (pn s) (pd s) hb ht
  have hpp := spec_HeldPutO l (pr s) (pn s) (txV (strL s) (pe s)) hb ht hok
  have hv0 := hv
  unfold pieceV at hv
  refine fnT C.spec_l14Piece ?_
  refine run ?_
  refine r_ifd (fun h01 => ?_) (fun h01 => ?_)
  · refine run ?_
    exact r_end [] [] (hres := by exact wk_no _ _)
  have h0 := Decidable.not_not.1 (not_or.1 h01).1
  have h1 := Decidable.not_not.1 (not_or.1 h01).2
  have hss := gnO_size h0
  have hne : s ≠ ⟨#[]⟩ := fun h => by rw [h] at hss; exact absurd hss (by decide)
  refine run ?_
  refine r_ifd (fun h => ?_) (fun h => ?_)
  · obtain ⟨⟨⟨h2, hk⟩, he⟩, _⟩ := h
    rw [if_pos (show pOk s from ⟨h0, h1, h2⟩), if_pos (show pk s = 1 from hk), if_pos (show pieceNewB (pr s) (pn s) (pd s) = s from he)] at hv
    have hn : (newH l (pr s) (pn s) (pd s)).2 = false := by
      cases hq : (newH l (pr s) (pn s) (pd s)).2 with
      | false => rfl
      | true => rw [if_pos hq] at hv; cases hv
    rw [hn] at hsp
    refine run ?_
    refine r_callp true hsp ?_
    refine run ?_
    exact r_end [] [] (hres := by exact wk_no _ _)
  refine run ?_
  refine r_ifd (fun h2 => ?_) (fun h2 => ?_)
  · obtain ⟨h2, hk⟩ := h2
    refine run ?_
    refine r_ifd (fun h3 => ?_) (fun h3 => ?_)
    · rw [if_pos (show pOk s from ⟨h0, h1, h2⟩), if_neg (show ¬ pk s = 1 from fun h => by rw [show pk s = 2 from hk] at h; exact absurd h (by decide)), if_pos (show pk s = 2 ∧ txO (strL s) (pe s) ∧ piecePutB (pr s) (pn s) (txV (strL s) (pe s)) = s from ⟨hk, h3⟩)] at hv
      have hn : ¬ ((putH l (pr s) (pn s) (txV (strL s) (pe s))).2 = 0 ∨ (putH l (pr s) (pn s) (txV (strL s) (pe s))).2 = 2) := fun hq => by rw [if_pos hq] at hv; cases hv
      have hn0 : ¬ (putH l (pr s) (pn s) (txV (strL s) (pe s))).2 = 0 := fun k => hn (.inl k)
      have hn2 : ¬ (putH l (pr s) (pn s) (txV (strL s) (pe s))).2 = 2 := fun k => hn (.inr k)
      refine run ?_
      refine r_callp true hpp ?_
      refine run ?_
      rw [decide_eq_false hn]
      exact r_end [] [] (hres := by exact wk_no _ _)
    · refine run ?_
      exact r_end [] [] (hres := by exact wk_no _ _)
  · refine run ?_
    exact r_end [] [] (hres := by exact wk_no _ _)

/-- Where it is taken. -/
theorem spec_PieceS (l l2 : List HeldV) (s : ByteArray) (hb : bndHS l) (ht : totHS l ≤ 1048576) (hok : heldsP l) (hs : s.size ≤ 140737488351232) (hv : pieceV l s = some l2) :
    CallsT Try.prog [] F.spec_l14Piece [.sl false 1 l.length 4 (rowT heldC l), .v (.string s)] (.tup [.ref 0 [] 0 l2.length, .v (.bool true)]) [⟨4, true, rowT heldO l2⟩] := by
  have hbs := bytesP_str s
  have hl := strL_length s
  have a1 := gnA_b hbs 0
  have a2 := gnA_b hbs (gnA (strL s) 0)
  have a3 := gnA_b hbs (gnA (strL s) (gnA (strL s) 0))
  have hz : (s.extract (gnA (strL s) (gnA (strL s) (gnA (strL s) 0))).toNat s.size).size ≤ 140737488351232 := by
    rw [ByteArray.size_extract]; omega
  have htx := txV_size hbs (gnA (strL s) (gnA (strL s) (gnA (strL s) 0)))
  have hsp := spec_HeldNewO l (pr s) (pn s) (pd s) hb ht
  have hpp := spec_HeldPutO l (pr s) (pn s) (txV (strL s) (pe s)) hb ht hok
  have hv0 := hv
  unfold pieceV at hv
  refine fnT C.spec_l14Piece ?_
  refine run ?_
  refine r_ifd (fun h01 => ?_) (fun h01 => ?_)
  · rw [if_neg (fun hh : pOk s => h01.elim (fun k => k hh.1) (fun k => k hh.2.1))] at hv
    cases hv
  have h0 := Decidable.not_not.1 (not_or.1 h01).1
  have h1 := Decidable.not_not.1 (not_or.1 h01).2
  have hss := gnO_size h0
  have hne : s ≠ ⟨#[]⟩ := fun h => by rw [h] at hss; exact absurd hss (by decide)
  refine run ?_
  refine r_ifd (fun h => ?_) (fun h => ?_)
  · obtain ⟨⟨⟨h2, hk⟩, he⟩, _⟩ := h
    rw [if_pos (show pOk s from ⟨h0, h1, h2⟩), if_pos (show pk s = 1 from hk), if_pos (show pieceNewB (pr s) (pn s) (pd s) = s from he)] at hv
    have hn : (newH l (pr s) (pn s) (pd s)).2 = true := by
      cases hq : (newH l (pr s) (pn s) (pd s)).2 with
      | false => rw [hq] at hv; cases hv
      | true => rfl
    rw [if_pos hn] at hv
    cases hv
    rw [hn] at hsp
    refine run ?_
    refine r_callp true hsp ?_
    refine run ?_
    exact r_end [1] []
  refine run ?_
  refine r_ifd (fun h2 => ?_) (fun h2 => ?_)
  · obtain ⟨h2, hk⟩ := h2
    refine run ?_
    refine r_ifd (fun h3 => ?_) (fun h3 => ?_)
    · rw [if_pos (show pOk s from ⟨h0, h1, h2⟩), if_neg (show ¬ pk s = 1 from fun h => by rw [show pk s = 2 from hk] at h; exact absurd h (by decide)), if_pos (show pk s = 2 ∧ txO (strL s) (pe s) ∧ piecePutB (pr s) (pn s) (txV (strL s) (pe s)) = s from ⟨hk, h3⟩)] at hv
      have hn : (putH l (pr s) (pn s) (txV (strL s) (pe s))).2 = 0 ∨ (putH l (pr s) (pn s) (txV (strL s) (pe s))).2 = 2 := Decidable.byContradiction fun hq => by rw [if_neg hq] at hv; cases hv
      rw [if_pos hn] at hv
      cases hv
      refine run ?_
      refine r_callp true hpp ?_
      refine run ?_
      rw [decide_eq_true hn]
      exact r_end [1] []
    · rw [if_pos (show pOk s from ⟨h0, h1, h2⟩), if_neg (show ¬ pk s = 1 from fun h => by rw [show pk s = 2 from hk] at h; exact absurd h (by decide)), if_neg (fun hh => h3 hh.2)] at hv
      cases hv
  · exfalso
    by_cases hp : pOk s
    · rw [if_pos hp] at hv
      by_cases hk : pk s = 1
      · rw [if_pos hk] at hv
        by_cases he : pieceNewB (pr s) (pn s) (pd s) = s
        · exact h ⟨⟨⟨hp.2.2, hk⟩, he⟩, hne⟩
        · rw [if_neg he] at hv
          cases hv
      · rw [if_neg hk, if_neg (fun hh => h2 ⟨hp.2.2, hh.1⟩)] at hv
        cases hv
    · rw [if_neg hp] at hv
      cases hv

end Go.TL

/- What a piece makes of a list, by the program. No conditions but those that are written. -/
namespace Go.TL
set_option linter.unusedSimpArgs false
open Go.Proofs Go.RowKit
attribute [local irreducible] wpOpsT wpT EndT Ex.seq Ex.block W

abbrev q1 (s : ByteArray) : Prop := nQ (strL s) 0 False
abbrev c1 (s : ByteArray) : Int := nA (strL s) 0 False
abbrev kx (s : ByteArray) : Int := nX (strL s) 0 False
abbrev q2 (s : ByteArray) : Prop := nQ (strL s) (c1 s) (q1 s)
abbrev c2 (s : ByteArray) : Int := nA (strL s) (c1 s) (q1 s)
abbrev rx (s : ByteArray) : Int := nX (strL s) (c1 s) (q1 s)
abbrev q3 (s : ByteArray) : Prop := nQ (strL s) (c2 s) (q2 s)
abbrev c3 (s : ByteArray) : Int := nA (strL s) (c2 s) (q2 s)
abbrev nx (s : ByteArray) : Int := nX (strL s) (c2 s) (q2 s)

theorem nX_neg {b : List Int} {a : Int} {q : Prop} [Decidable q] (h : ¬ nQ b a q) : nX b a q = gnX b a ∧ nA b a q = gnA b a ∧ ¬ q ∧ gnO b a :=
  ⟨if_neg h, if_neg h, fun hq => h (.inl hq), Decidable.byContradiction fun hg => h (.inr hg)⟩
theorem three {s : ByteArray} (h : ¬ q3 s) : pOk s ∧ kx s = pk s ∧ rx s = pr s ∧ nx s = pn s ∧ c3 s = pe s := by
  obtain ⟨e3, a3, h2, g3⟩ := nX_neg h
  obtain ⟨e2, a2, h1, g2⟩ := nX_neg h2
  obtain ⟨e1, a1, _, g1⟩ := nX_neg h1
  have E1 : c1 s = gnA (strL s) 0 := a1
  have E2 : c2 s = gnA (strL s) (gnA (strL s) 0) := a2.trans (congrArg (gnA (strL s)) E1)
  exact ⟨⟨g1, E1 ▸ g2, E2 ▸ g3⟩, e1, e2.trans (congrArg (gnX (strL s)) E1), e3.trans (congrArg (gnX (strL s)) E2), a3.trans (congrArg (gnA (strL s)) E2)⟩
theorem three' {s : ByteArray} (h : pOk s) : ¬ q3 s := by
  obtain ⟨g1, g2, g3⟩ := h
  have n1 : ¬ q1 s := fun hh => hh.elim id (fun k => k g1)
  obtain ⟨_, a1, _, _⟩ := nX_neg n1
  have E1 : c1 s = gnA (strL s) 0 := a1
  have n2 : ¬ q2 s := fun hh => hh.elim n1 (fun k => k (E1 ▸ g2))
  obtain ⟨_, a2, _, _⟩ := nX_neg n2
  have E2 : c2 s = gnA (strL s) (gnA (strL s) 0) := a2.trans (congrArg (gnA (strL s)) E1)
  exact fun hh => hh.elim n2 (fun k => k (E2 ▸ g3))

theorem bX_size {b : List Int} {a n : Int} {q : Prop} [Decidable q] (h : rdP b a) (hn : 0 ≤ n) : (bX b a n q).size ≤ 140737488351232 := by
  obtain ⟨h1, h2, h3, h4⟩ := h
  unfold bX
  split
  · decide
  · rename_i hq
    have hq := (not_or.1 hq).2
    rw [strOf_size]
    have := cutL_len b (lo := a) (hi := a + n) ⟨by omega, by omega, by omega⟩
    omega

/-- The digest that a new parcel's piece says. -/
theorem pieceA {s : ByteArray} (h : (¬ bQ (strL s) (c3 s) 32 (q3 s) ∧ bA (strL s) (c3 s) 32 (q3 s) = (strL s).length) ∧ pieceNewB (rx s) (nx s) (bX (strL s) (c3 s) 32 (q3 s)) = s) :
    pOk s ∧ kx s = pk s ∧ rx s = pr s ∧ nx s = pn s ∧ bX (strL s) (c3 s) 32 (q3 s) = pd s := by
  obtain ⟨⟨hb, ha⟩, _⟩ := h
  obtain ⟨h1, h2, h3, h4, h5⟩ := three (fun k => hb (.inl k))
  refine ⟨h1, h2, h3, h4, ?_⟩
  rw [show bA (strL s) (c3 s) 32 (q3 s) = c3 s + 32 from if_neg hb] at ha
  rw [show bX (strL s) (c3 s) 32 (q3 s) = strOfT (cutL (strL s) (c3 s) (c3 s + 32)) from if_neg hb, strOf_cutL, ha, h5, strL_length, Int.toNat_natCast]
theorem pieceA' {s : ByteArray} (h1 : pOk s) (h2 : pieceNewB (pr s) (pn s) (pd s) = s) : (¬ bQ (strL s) (c3 s) 32 (q3 s) ∧ bA (strL s) (c3 s) 32 (q3 s) = (strL s).length) ∧ pieceNewB (rx s) (nx s) (bX (strL s) (c3 s) 32 (q3 s)) = s := by
  have hd := pieceNew_dig h2 (gnO_size h1.1)
  have hpe : pe s = gnA (strL s) (gnA (strL s) (gnA (strL s) 0)) := rfl
  have hq := three' h1
  obtain ⟨_, _, h3, h4, h5⟩ := three hq
  have hg := gn_b (bytesP_str s) h1.2.2
  rw [strL_length] at hg
  unfold pd at hd
  rw [ByteArray.size_extract] at hd
  have hb : ¬ bQ (strL s) (c3 s) 32 (q3 s) := fun hh => hh.elim hq (fun k => by rw [strL_length, h5] at k; omega)
  have ha : c3 s + 32 = (strL s).length := by rw [strL_length, h5]; omega
  refine ⟨⟨hb, ?_⟩, ?_⟩
  · rw [show bA (strL s) (c3 s) 32 (q3 s) = c3 s + 32 from if_neg hb, ha]
  · rw [show bX (strL s) (c3 s) 32 (q3 s) = strOfT (cutL (strL s) (c3 s) (c3 s + 32)) from if_neg hb, strOf_cutL, ha, h5, strL_length, Int.toNat_natCast, h3, h4]
    exact h2

/-- The part that a part's piece says. -/
abbrev tn (s : ByteArray) : Int := nX (strL s) (c3 s) (q3 s)
abbrev ta (s : ByteArray) : Int := nA (strL s) (c3 s) (q3 s)
abbrev tv (s : ByteArray) : ByteArray := bX (strL s) (ta s) (tn s) (tQ (strL s) (c3 s) (q3 s))
theorem pieceB {s : ByteArray} (h1 : ¬ bQ (strL s) (ta s) (tn s) (tQ (strL s) (c3 s) (q3 s))) (h2 : piecePutB (rx s) (nx s) (tv s) = s) :
    pOk s ∧ pk s = 2 ∧ rx s = pr s ∧ nx s = pn s ∧ txO (strL s) (pe s) ∧ tv s = txV (strL s) (pe s) := by
  have ht : ¬ tQ (strL s) (c3 s) (q3 s) := fun k => h1 (.inl k)
  obtain ⟨e1, e2, hq, hg⟩ := nX_neg (fun k => ht (.inl k))
  obtain ⟨hp, _, e3, e4, e5⟩ := three hq
  have hn : ¬ 3000 < tn s := fun k => ht (.inr k)
  have hm : ¬ (strL s).length - ta s < tn s := fun k => h1 (.inr k)
  rw [e5] at e1 e2 hg
  have hx : txO (strL s) (pe s) := ⟨hg, by rw [← e1]; show nX (strL s) (pe s) (q3 s) ≤ 3000; rw [← e5]; exact Int.not_lt.1 hn, by rw [← e1, ← e2, ← e5]; exact Int.not_lt.1 hm⟩
  have hv : tv s = txV (strL s) (pe s) := by
    rw [show txV (strL s) (pe s) = strOfT (cutL (strL s) (gnA (strL s) (pe s)) (gnA (strL s) (pe s) + gnX (strL s) (pe s))) from if_pos hx]
    rw [show tv s = strOfT (cutL (strL s) (ta s) (ta s + tn s)) from if_neg h1, ← e1, ← e2, ← e5]
  exact ⟨hp, (piecePut_read h2 (gnO_size hp.1)).1, e3, e4, hx, hv⟩
theorem pieceB' {s : ByteArray} (h1 : pOk s) (h2 : txO (strL s) (pe s)) (h3 : piecePutB (pr s) (pn s) (txV (strL s) (pe s)) = s) :
    (¬ bQ (strL s) (ta s) (tn s) (tQ (strL s) (c3 s) (q3 s)) ∧ bA (strL s) (ta s) (tn s) (tQ (strL s) (c3 s) (q3 s)) = (strL s).length) ∧ piecePutB (rx s) (nx s) (tv s) = s := by
  have hq := three' h1
  obtain ⟨_, _, e3, e4, e5⟩ := three hq
  have hg : gnO (strL s) (c3 s) := by rw [e5]; exact h2.1
  have hnq : ¬ nQ (strL s) (c3 s) (q3 s) := fun hh => hh.elim hq (fun k => k hg)
  obtain ⟨e1, e2, _, _⟩ := nX_neg hnq
  have e1 : tn s = gnX (strL s) (pe s) := by rw [← e5]; exact e1
  have e2 : ta s = gnA (strL s) (pe s) := by rw [← e5]; exact e2
  obtain ⟨g1, g2, g3⟩ := h2
  have ht : ¬ tQ (strL s) (c3 s) (q3 s) := fun hh => hh.elim hnq (fun k => by rw [show nX (strL s) (c3 s) (q3 s) = gnX (strL s) (pe s) from e1] at k; omega)
  have hb : ¬ bQ (strL s) (ta s) (tn s) (tQ (strL s) (c3 s) (q3 s)) := fun hh => hh.elim ht (fun k => by rw [e1, e2] at k; omega)
  have hv : tv s = txV (strL s) (pe s) := by
    rw [show txV (strL s) (pe s) = strOfT (cutL (strL s) (gnA (strL s) (pe s)) (gnA (strL s) (pe s) + gnX (strL s) (pe s))) from if_pos ⟨g1, g2, g3⟩]
    rw [show tv s = strOfT (cutL (strL s) (ta s) (ta s + tn s)) from if_neg hb, e1, e2]
  have hr := piecePut_read h3 (gnO_size h1.1)
  refine ⟨⟨hb, ?_⟩, by rw [e3, e4, hv]; exact h3⟩
  rw [show bA (strL s) (ta s) (tn s) (tQ (strL s) (c3 s) (q3 s)) = ta s + tn s from if_neg hb, e1, e2]
  have r2 := hr.2.1
  have r3 := hr.2.2
  rw [r2]
  exact r3

instance (b : List Int) (a : Int) : Con1 Try.prog ⟨0, true, [.sl false 0 b.length 1 (rowT u8C b), .v (.int .i64 a), .v (.bool false)]⟩ F.impl_reader_num [.ptr 0 [] 0] (rdP b a) (.v (.int .i64 (nX b a False))) ⟨0, true, [.sl false 0 b.length 1 (rowT u8C b), .v (.int .i64 (nA b a False)), .v (.bool (decide (nQ b a False)))]⟩ := ⟨fun h => impl_reader_num b a False h⟩

theorem impl_heldByN (l : List HeldV) (s : ByteArray) (hb : bndHS l) (ht : totHS l ≤ 1048576) (hok : heldsP l) (hs : s.size ≤ 140737488351232) (hv : pieceV l s = none) :
    CallsT Try.prog [] F.impl_heldBy [.sl false 1 l.length 4 (rowT heldC l), .v (.string s)] (.tup [.dead, .v (.bool false)]) [] := by
  have hbs := bytesP_str s
  have hl := strL_length s
  have r0 : rdP (strL s) 0 := ⟨hbs, by omega, by omega, by omega⟩
  have r1 := nA_b r0 False
  have r2 := nA_b r1 (nQ (strL s) 0 False)
  have r3 := nA_b r2 (nQ (strL s) (nA (strL s) 0 False) (nQ (strL s) 0 False))
  have r4 := nA_b r3 (q3 s)
  have hx4 := nX_b r3 (q3 s)
  have hz1 := bX_size (n := 32) (q := q3 s) r3 (by decide)
  have hz2 := bX_size (n := tn s) (q := tQ (strL s) (c3 s) (q3 s)) r4 hx4.1
  refine fnT C.impl_heldBy ?_
  refine r_seq ?_
  refine r_region ?_
  repeat (refine r_do ?_)
  refine r_ops ?_
  refine x_seq_n ?_
  refine r_seq ?_
  refine r_region ?_
  repeat (refine r_do ?_)
  refine r_ops ?_
  refine x_seq_n ?_
  refine r_gc [(0, .sl false 1 l.length 4 (rowT heldC l)), (1, .v (.string s)), (6, .ptr 0 [] 0)] [⟨0, true, [.sl false 0 (strL s).length 1 (rowT u8C (strL s)), .v (.int .i64 0), .v (.bool false)]⟩] [1] [0] Gc.of ?_
  refine runC ?_
  refine r_call1 ?_
  refine runC ?_
  refine r_call1 ?_
  refine runC ?_
  refine r_call1 ?_
  refine runC ?_
  refine r_ifd (fun hk => ?_) (fun hk => ?_)
  · refine runC ?_
    refine r_call1 ?_
    refine runC ?_
    refine r_call1 ?_
    refine runC ?_
    refine r_ifd (fun h => ?_) (fun h => ?_)
    · obtain ⟨hp, e1, e2, e3, e4⟩ := pieceA h
      have he : pieceNewB (rx s) (nx s) (bX (strL s) (c3 s) 32 (q3 s)) = s := h.2
      rw [e2, e3, e4] at he
      have hk1 : pk s = 1 := e1.symm.trans hk
      have him := impl_HeldNewR l (pr s) (pn s) (pd s) hb ht hok
      rw [pieceV, if_pos hp, if_pos hk1, if_pos he] at hv
      rw [← e2, ← e3, ← e4] at him hv
      have hn : (newH l (rx s) (nx s) (bX (strL s) (c3 s) 32 (q3 s))).2 = false := by
        cases hq : (newH l (rx s) (nx s) (bX (strL s) (c3 s) 32 (q3 s))).2 with
        | false => rfl
        | true => rw [if_pos hq] at hv; cases hv
      rw [hn] at him
      refine runC ?_
      refine r_callp true him ?_
      refine run ?_
      exact r_end [] [] (hres := by exact wk_no _ _)
    · refine run ?_
      exact r_end [] [] (hres := by exact wk_no _ _)
  · refine runC ?_
    refine r_call1 ?_
    refine runC ?_
    refine r_call1 ?_
    refine runC ?_
    refine r_ifd (fun h => ?_) (fun h => ?_)
    · refine run ?_
      exact r_end [] [] (hres := by exact wk_no _ _)
    · have h6 := Decidable.not_not.1 (not_or.1 h).1
      have h7 := Decidable.not_not.1 (not_or.1 h).2
      obtain ⟨hp, hk2, e2, e3, hx, e4⟩ := pieceB h6.1 h7
      have he : piecePutB (rx s) (nx s) (tv s) = s := h7
      rw [e2, e3, e4] at he
      have him := impl_HeldPutO l (pr s) (pn s) (txV (strL s) (pe s)) hb ht hok
      rw [pieceV, if_pos hp, if_neg (show ¬ pk s = 1 from fun h => by rw [hk2] at h; exact absurd h (by decide)), if_pos ⟨hk2, hx, he⟩] at hv
      rw [← e2, ← e3, ← e4] at him hv
      have hn : ¬ ((putH l (rx s) (nx s) (tv s)).2 = 0 ∨ (putH l (rx s) (nx s) (tv s)).2 = 2) := fun hq => by rw [if_pos hq] at hv; cases hv
      refine runC ?_
      refine r_callp true him ?_
      refine run ?_
      rw [decide_eq_false hn]
      exact r_end [] [] (hres := by exact wk_no _ _)

theorem impl_heldByS (l l2 : List HeldV) (s : ByteArray) (hb : bndHS l) (ht : totHS l ≤ 1048576) (hok : heldsP l) (hs : s.size ≤ 140737488351232) (hv : pieceV l s = some l2) :
    CallsT Try.prog [] F.impl_heldBy [.sl false 1 l.length 4 (rowT heldC l), .v (.string s)] (.tup [.ref 0 [] 0 l2.length, .v (.bool true)]) [⟨4, true, rowT heldO l2⟩] := by
  have hbs := bytesP_str s
  have hl := strL_length s
  have r0 : rdP (strL s) 0 := ⟨hbs, by omega, by omega, by omega⟩
  have r1 := nA_b r0 False
  have r2 := nA_b r1 (nQ (strL s) 0 False)
  have r3 := nA_b r2 (nQ (strL s) (nA (strL s) 0 False) (nQ (strL s) 0 False))
  have r4 := nA_b r3 (q3 s)
  have hx4 := nX_b r3 (q3 s)
  have hz1 := bX_size (n := 32) (q := q3 s) r3 (by decide)
  have hz2 := bX_size (n := tn s) (q := tQ (strL s) (c3 s) (q3 s)) r4 hx4.1
  refine fnT C.impl_heldBy ?_
  refine r_seq ?_
  refine r_region ?_
  repeat (refine r_do ?_)
  refine r_ops ?_
  refine x_seq_n ?_
  refine r_seq ?_
  refine r_region ?_
  repeat (refine r_do ?_)
  refine r_ops ?_
  refine x_seq_n ?_
  refine r_gc [(0, .sl false 1 l.length 4 (rowT heldC l)), (1, .v (.string s)), (6, .ptr 0 [] 0)] [⟨0, true, [.sl false 0 (strL s).length 1 (rowT u8C (strL s)), .v (.int .i64 0), .v (.bool false)]⟩] [1] [0] Gc.of ?_
  refine runC ?_
  refine r_call1 ?_
  refine runC ?_
  refine r_call1 ?_
  refine runC ?_
  refine r_call1 ?_
  refine runC ?_
  refine r_ifd (fun hk => ?_) (fun hk => ?_)
  · refine runC ?_
    refine r_call1 ?_
    refine runC ?_
    refine r_call1 ?_
    refine runC ?_
    refine r_ifd (fun h => ?_) (fun h => ?_)
    · obtain ⟨hp, e1, e2, e3, e4⟩ := pieceA h
      have he : pieceNewB (rx s) (nx s) (bX (strL s) (c3 s) 32 (q3 s)) = s := h.2
      rw [e2, e3, e4] at he
      have hk1 : pk s = 1 := e1.symm.trans hk
      have him := impl_HeldNewR l (pr s) (pn s) (pd s) hb ht hok
      rw [pieceV, if_pos hp, if_pos hk1, if_pos he] at hv
      rw [← e2, ← e3, ← e4] at him hv
      have hn : (newH l (rx s) (nx s) (bX (strL s) (c3 s) 32 (q3 s))).2 = true := by
        cases hq : (newH l (rx s) (nx s) (bX (strL s) (c3 s) 32 (q3 s))).2 with
        | false => rw [hq] at hv; cases hv
        | true => rfl
      rw [if_pos hn] at hv
      cases hv
      rw [hn] at him
      refine runC ?_
      refine r_callp true him ?_
      refine run ?_
      exact r_end [1] []
    · exfalso
      rw [pieceV] at hv
      by_cases hp : pOk s
      · have e := three (three' hp)
        rw [if_pos hp, if_pos (e.2.1.symm.trans hk)] at hv
        by_cases he : pieceNewB (pr s) (pn s) (pd s) = s
        · exact h (pieceA' hp he)
        · rw [if_neg he] at hv; cases hv
      · rw [if_neg hp] at hv; cases hv
  · refine runC ?_
    refine r_call1 ?_
    refine runC ?_
    refine r_call1 ?_
    refine runC ?_
    refine r_ifd (fun h => ?_) (fun h => ?_)
    · exfalso
      rw [pieceV] at hv
      by_cases hp : pOk s
      · have e := three (three' hp)
        rw [if_pos hp, if_neg (fun k => hk (e.2.1.trans k))] at hv
        by_cases he : pk s = 2 ∧ txO (strL s) (pe s) ∧ piecePutB (pr s) (pn s) (txV (strL s) (pe s)) = s
        · have hb := pieceB' hp he.2.1 he.2.2
          exact h.elim (fun k => k hb.1) (fun k => k hb.2)
        · rw [if_neg he] at hv; cases hv
      · rw [if_neg hp] at hv; cases hv
    · have h6 := Decidable.not_not.1 (not_or.1 h).1
      have h7 := Decidable.not_not.1 (not_or.1 h).2
      obtain ⟨hp, hk2, e2, e3, hx, e4⟩ := pieceB h6.1 h7
      have he : piecePutB (rx s) (nx s) (tv s) = s := h7
      rw [e2, e3, e4] at he
      have him := impl_HeldPutO l (pr s) (pn s) (txV (strL s) (pe s)) hb ht hok
      rw [pieceV, if_pos hp, if_neg (show ¬ pk s = 1 from fun h => by rw [hk2] at h; exact absurd h (by decide)), if_pos ⟨hk2, hx, he⟩] at hv
      rw [← e2, ← e3, ← e4] at him hv
      have hn : (putH l (rx s) (nx s) (tv s)).2 = 0 ∨ (putH l (rx s) (nx s) (tv s)).2 = 2 := Decidable.byContradiction fun hq => by rw [if_neg hq] at hv; cases hv
      rw [if_pos hn] at hv
      cases hv
      refine runC ?_
      refine r_callp true him ?_
      refine run ?_
      rw [decide_eq_true hn]
      exact r_end [1] []

end Go.TL
