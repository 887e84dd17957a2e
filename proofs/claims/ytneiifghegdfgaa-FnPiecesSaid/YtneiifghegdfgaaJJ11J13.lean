/- Texts joined. No conditions but those that are written. -/
import Derived.Test.YtneiifghegdfgaaJJ7J9
import Derived.Test.YtneiifghegdfgaaTNst
/- A file is put into a disk, by the reference. No conditions but those that are written. -/
namespace Go.TL
set_option linter.unusedSimpArgs false
open Go.Proofs Go.RowKit
attribute [local irreducible] wpOpsT wpT EndT Ex.seq Ex.block W

/-- The files ahead of a place, one more among them; whether it is there. -/
def pfStep (f : FileV) (s : List FileV × Bool) (x : FileV) : List FileV × Bool :=
  ((if s.2 = false ∧ f.name ≤ x.name then s.1 ++ [f] else s.1) ++ (if x.name = f.name then [] else [x]), s.2 || decide (f.name ≤ x.name))
def pfSt (f : FileV) (l : List FileV) : List FileV × Bool := l.foldl (pfStep f) ([], false)
theorem pfSt_s (f : FileV) {l : List FileV} {i : Nat} (hi : i < l.length) : pfSt f (l.take (i + 1)) = pfStep f (pfSt f (l.take i)) (nth l (i : Nat)) := by
  rw [take_nth hi, pfSt, List.foldl_append]; rfl
def pfL (f : FileV) (l : List FileV) : List FileV := if (pfSt f l).2 = true then (pfSt f l).1 else (pfSt f l).1 ++ [f]
theorem pfSt_len (f : FileV) : ∀ l : List FileV, (pfSt f l).1.length ≤ 2 * l.length := by
  have key : ∀ (l : List FileV) (s : List FileV × Bool), (l.foldl (pfStep f) s).1.length ≤ s.1.length + 2 * l.length := by
    intro l
    induction l with
    | nil => exact fun s => Nat.le_refl _
    | cons x l ih =>
      intro s
      have h1 := ih (pfStep f s x)
      have h2 : (pfStep f s x).1.length ≤ s.1.length + 2 := by
        unfold pfStep
        dsimp only
        split <;> split <;> simp only [List.length_append, List.length_singleton, List.length_nil] <;> omega
      rw [List.foldl_cons, List.length_cons]
      omega
  intro l
  have := key l ([], false)
  simpa [pfSt] using this

/-- The roots of a disk that is made. -/
def pfG (room : Int) (w : T) (f : FileV) : List FileV → Store
  | [] => [⟨0, true, [.v (.int .i64 room), w]⟩, ⟨0, true, [.v (.int .i64 f.name), .v (.string f.safe), .v (.string f.late)]⟩, ⟨0, true, [.v (.int .i64 0), .v (.slice none 0 0)]⟩, ⟨0, true, [.v (.int .i64 room), .v (.slice none 0 0)]⟩]
  | x :: o => [⟨0, true, [.v (.int .i64 room), w]⟩, ⟨0, true, [.v (.int .i64 f.name), .v (.string f.safe), .v (.string f.late)]⟩, ⟨0, true, [.v (.int .i64 0), .v (.slice none 0 0)]⟩, ⟨0, true, [.v (.int .i64 room), .ref 4 [] 0 (x :: o).length]⟩, ⟨3, true, rowT fileC (x :: o)⟩]

theorem take_rowF (y : FileV) (o : List FileV) : (rowT fileC (y :: o)).take ((o.length + 1) * 3) = rowT fileC (y :: o) :=
  List.take_of_length_le (by rw [len_row, List.length_cons]; exact Nat.le_refl _)
attribute [local go_sem] take_rowF

set_option linter.unusedSimpArgs false in
set_option maxHeartbeats 8000000 in
theorem spec_l3Put (k : Nat) (room : Int) (l : List FileV) (f : FileV) (hl : l.length ≤ 1048576) (hb : bndFileS l) (hf : bndFileV f) :
    CallsT Try.prog [] F.spec_l3Put [.agg [.v (.int .i64 room), .sl false k l.length 3 (rowT fileC l)], .agg [.v (.int .i64 f.name), .v (.string f.safe), .v (.string f.late)]] (.agg [.v (.int .i64 room), .sl false 0 (pfL f l).length 3 (rowT fileC (pfL f l))]) [] := by
  obtain ⟨hf1, hf2⟩ := hf
  refine fnT C.spec_l3Put ?_
  refine run ?_
  refine r_for l.length (fun i => [(2, .ptr 0 [] 0), (3, .ptr 1 [] 0), (4, .ptr 2 [] 0), (5, .ptr 3 [] 0), (6, .v (.bool (decide ((pfSt f (l.take i)).2 = true)))), (7, .v (.int .i64 i))]) (fun i => pfG room (.sl false k l.length 3 (rowT fileC l)) f (pfSt f (l.take i)).1) (fun _ => True) [0, 1, 2, 3] [] trivial (Gc.of (hf := ?_)) (fun i hi _ => ?_) (fun _ => ?_)
  · simp only [List.take_zero, pfSt, List.foldl_nil]
    (simp only [go_sem, ↓reduceIte, Nat.reduceEqDiff, Nat.reduceMul, Nat.reduceAdd, Nat.reduceSub, Nat.reduceLT, Nat.reduceGT, Nat.reduceLeDiff, Nat.reduceBEq, Int.reduceLT, Int.reduceLE, Int.reduceNe, Int.reduceEq, Int.reduceToNat, Int.reduceAdd, Int.reduceSub, Int.reduceMul, Int.reduceNeg, Nat.reducePow, Int.reducePow, Nat.reduceSubDiff, decide_true, decide_false, reduceCtorEq, or_self, or_false, false_or, or_true, true_or, if_false, gt_iff_lt, ge_iff_le, ne_eq, not_true_eq_false, not_false_eq_true, and_self, beq_self_eq_true, Bool.false_eq_true]; try (repeat (first | exact True.intro | exact Wk.refl _ | exact Wk.nil _ _ | exact Wk.dead _ | exact Wk.bT (by assumption) | exact Wk.bF (by assumption) | exact Wk.eqI (by omega) | exact WkS.refl _ | exact Wks.same _ | exact Wks.nil | exact WkS.nil | refine And.intro ?_ ?_ | refine Wk.aggs ?_ | refine Wk.tups ?_ | refine Wks.cons ?_ ?_ | refine WkS.cons (by first | exact fun _ => rfl | exact fun h => absurd h Bool.false_ne_true) ?_ ?_ ?_ | assumption | exact (fun h => h) | exact (fun h => absurd h Bool.false_ne_true) | intro _)))
  · have hs := pfSt_s f hi
    have hn := pfSt_len f (l.take i)
    have ht : (l.take i).length ≤ 1048576 := by rw [List.length_take]; omega
    have hx := nthF_b hb (i : Int)
    obtain ⟨hx1, hx2⟩ := hx
    generalize pfSt f (l.take i) = s at *
    obtain ⟨out, put⟩ := s
    dsimp only at *
    cases out with
    | nil =>
      dsimp only [pfG]
      refine run ?_
      refine r_ifd (fun h => ?_) (fun h => ?_)
      · have hp : put = false := by simpa using h.1
        have hxx : f.name ≤ (nth l (i : Nat)).name := h.2
        subst hp
        refine run ?_
        refine r_apz ?_
        refine run ?_
        refine r_ifd (fun h2 => ?_) (fun h2 => ?_)
        · have e : pfStep f ([], false) (nth l (i : Nat)) = ([f, nth l (i : Nat)], true) := by
            simp [pfStep, hxx, h2]
          rw [hs, e]
          dsimp only [pfG]
          refine run ?_
          refine r_apw ?_
          refine run ?_
          exact ⟨[0, 1, 2, 3, 7], [], Gc.of, trivial⟩
        · have h2 := Decidable.not_not.1 h2
          have e : pfStep f ([], false) (nth l (i : Nat)) = ([f], true) := by
            simp [pfStep, hxx, h2]
          rw [hs, e]
          dsimp only [pfG]
          refine run ?_
          exact ⟨[0, 1, 2, 3, 5], [], Gc.of, trivial⟩
      · have hne : ¬ (put = false ∧ f.name ≤ (nth l (i : Nat)).name) := fun hh => h ⟨by simp [hh.1], hh.2⟩
        have hpp : (put || decide (f.name ≤ (nth l (i : Nat)).name)) = put := by
          cases put with
          | true => rfl
          | false => rw [decide_eq_false (fun k => hne ⟨rfl, k⟩)]; rfl
        refine run ?_
        refine r_ifd (fun h2 => ?_) (fun h2 => ?_)
        · have e : pfStep f ([], put) (nth l (i : Nat)) = ([nth l (i : Nat)], put) := by
            simp only [pfStep, if_neg hne, if_neg h2, hpp]; rfl
          rw [hs, e]
          dsimp only [pfG]
          refine run ?_
          refine r_apz ?_
          refine run ?_
          exact ⟨[0, 1, 2, 3, 5], [], Gc.of, trivial⟩
        · have h2 := Decidable.not_not.1 h2
          have e : pfStep f ([], put) (nth l (i : Nat)) = ([], put) := by
            simp only [pfStep, if_neg hne, if_pos h2, hpp, List.append_nil]
          rw [hs, e]
          dsimp only [pfG]
          refine run ?_
          exact ⟨[0, 1, 2, 3], [], Gc.of, trivial⟩
    | cons y o =>
      dsimp only [pfG]
      refine run ?_
      refine r_ifd (fun h => ?_) (fun h => ?_)
      · have hp : put = false := by simpa using h.1
        have hxx : f.name ≤ (nth l (i : Nat)).name := h.2
        subst hp
        refine run ?_
        refine r_app (enc := fileC) (y :: o) [f] (by simp only [List.length_cons, List.length_nil]; simp only [List.length_cons] at hn; omega) ?_
        refine run ?_
        refine r_ifd (fun h2 => ?_) (fun h2 => ?_)
        · have e : pfStep f (y :: o, false) (nth l (i : Nat)) = (y :: (o ++ [f] ++ [nth l (i : Nat)]), true) := by
            simp [pfStep, hxx, h2]
          rw [hs, e]
          dsimp only [pfG]
          refine run ?_
          refine r_app (enc := fileC) (y :: (o ++ [f])) [nth l (i : Nat)] (by simp only [List.length_cons, List.length_nil, List.length_append]; simp only [List.length_cons] at hn; omega) ?_
          refine run ?_
          exact ⟨[0, 1, 2, 3, 8], [], Gc.of, trivial⟩
        · have h2 := Decidable.not_not.1 h2
          have e : pfStep f (y :: o, false) (nth l (i : Nat)) = (y :: (o ++ [f]), true) := by
            simp [pfStep, hxx, h2]
          rw [hs, e]
          dsimp only [pfG]
          refine run ?_
          exact ⟨[0, 1, 2, 3, 6], [], Gc.of, trivial⟩
      · have hne : ¬ (put = false ∧ f.name ≤ (nth l (i : Nat)).name) := fun hh => h ⟨by simp [hh.1], hh.2⟩
        have hpp : (put || decide (f.name ≤ (nth l (i : Nat)).name)) = put := by
          cases put with
          | true => rfl
          | false => rw [decide_eq_false (fun k => hne ⟨rfl, k⟩)]; rfl
        refine run ?_
        refine r_ifd (fun h2 => ?_) (fun h2 => ?_)
        · have e : pfStep f (y :: o, put) (nth l (i : Nat)) = (y :: (o ++ [nth l (i : Nat)]), put) := by
            simp only [pfStep, if_neg hne, if_neg h2, hpp]; rfl
          rw [hs, e]
          dsimp only [pfG]
          refine run ?_
          refine r_app (enc := fileC) (y :: o) [nth l (i : Nat)] (by simp only [List.length_cons, List.length_nil]; simp only [List.length_cons] at hn; omega) ?_
          refine run ?_
          exact ⟨[0, 1, 2, 3, 6], [], Gc.of, trivial⟩
        · have h2 := Decidable.not_not.1 h2
          have e : pfStep f (y :: o, put) (nth l (i : Nat)) = (y :: o, put) := by
            simp only [pfStep, if_neg hne, if_pos h2, hpp, List.append_nil]
          rw [hs, e]
          dsimp only [pfG]
          refine run ?_
          exact ⟨[0, 1, 2, 3, 4], [], Gc.of, trivial⟩
  · rw [List.take_length]
    have hn := pfSt_len f l
    have hv : pfL f l = if (pfSt f l).2 = true then (pfSt f l).1 else (pfSt f l).1 ++ [f] := rfl
    rw [hv]
    clear hv
    generalize pfSt f l = s at *
    obtain ⟨out, put⟩ := s
    dsimp only at *
    cases out with
    | nil =>
      dsimp only [pfG]
      refine run ?_
      refine r_ifd (fun h => ?_) (fun h => ?_)
      · rw [if_neg h]
        refine run ?_
        refine r_apz ?_
        refine run ?_
        exact r_end [] [5]
      · rw [if_pos (Decidable.not_not.1 h)]
        refine run ?_
        exact r_end [] []
    | cons y o =>
      dsimp only [pfG]
      refine run ?_
      refine r_ifd (fun h => ?_) (fun h => ?_)
      · rw [if_neg h]
        refine run ?_
        refine r_app (enc := fileC) (y :: o) [f] (by simp only [List.length_cons, List.length_nil]; simp only [List.length_cons] at hn; omega) ?_
        refine run ?_
        exact r_end [] [6]
      · rw [if_pos (Decidable.not_not.1 h)]
        refine run ?_
        exact r_end [] [4]

end Go.TL

/- Seals, and what is added to a journal, by the reference. No conditions but those that are written. -/
namespace Go.TL
set_option linter.unusedSimpArgs false
open Go.Proofs Go.RowKit
attribute [local irreducible] wpOpsT wpT EndT Ex.seq Ex.block W

/-- Bytes sealed. -/
def sealB (l : List Int) : List Int := putNumL 10 l.length ++ l ++ sum4 (sumL l)
theorem sealB_len (l : List Int) : (sealB l).length ≤ 14 + l.length := by
  have := putNumL_len 10 l.length
  unfold sealB sum4
  simp only [List.length_append, List.length_cons, List.length_nil]
  omega

set_option maxHeartbeats 4000000 in
theorem spec_Seal (k : Nat) (l : List Int) (hpre : bytesP l ∧ l.length ≤ 3000) : CallsT Try.prog [] F.spec_Seal [.sl false k l.length 1 (rowT u8C l)] (.tup [.sl false 0 (sealB l).length 1 (rowT u8C (sealB l)), .v (.bool true)]) [] := by
  refine fnT C.spec_Seal ?_
  obtain ⟨hb, hl⟩ := hpre
  have hs := sumL_b hb
  have hp := putNumL_len 10 l.length
  have e : putNumL 10 l.length ++ l ++ [sumL l % 256, sumL l / 256 % 256, sumL l / 65536 % 256, sumL l / 16777216] = sealB l := rfl
  refine run ?_
  refine r_app (enc := u8C) (putNumL 10 l.length ++ l) [sumL l % 256, sumL l / 256 % 256, sumL l / 65536 % 256, sumL l / 16777216] (by simp only [List.length_append, List.length_cons, List.length_nil]; omega) ?_
  rw [e]
  refine run ?_
  exact r_end [] [3]
instance (k : Nat) (l : List Int) : Con Try.prog F.spec_Seal [.sl false k l.length 1 (rowT u8C l)] (bytesP l ∧ l.length ≤ 3000) (.tup [.sl false 0 (sealB l).length 1 (rowT u8C (sealB l)), .v (.bool true)]) [] := ⟨fun h => spec_Seal k l h⟩

/-- Texts sealed, one behind the other. -/
def sealsB (ts : List ByteArray) : List Int := ts.flatMap fun s => sealB (strL s)
theorem sealsB_len : ∀ ts : List ByteArray, (∀ s ∈ ts, s.size ≤ 3000) → (sealsB ts).length ≤ 3014 * ts.length
  | [], _ => by simp [sealsB]
  | s :: ts, h => by
    have h1 := h s (.head _)
    have h2 := sealsB_len ts fun t ht => h t (.tail _ ht)
    have h3 := sealB_len (strL s)
    rw [strL_length] at h3
    simp only [sealsB, List.flatMap_cons, List.length_append, List.length_cons] at h2 ⊢
    omega
theorem sealsB_take {ts : List ByteArray} {i : Nat} (hi : i < ts.length) : sealsB (ts.take (i + 1)) = sealsB (ts.take i) ++ sealB (strL (nth ts (i : Nat))) := by
  rw [take_nth hi, sealsB, List.flatMap_append]
  simp [sealsB]

set_option maxHeartbeats 4000000 in
theorem spec_l4Seals (k : Nat) (ts : List ByteArray) (hpre : (∀ s ∈ ts, s.size ≤ 3000) ∧ ts.length ≤ 100) : CallsT Try.prog [] F.spec_l4Seals [.sl false k ts.length 1 (rowT strC ts)] (.tup [.v (.string (strOfT (sealsB ts))), .v (.bool true)]) [] := by
  refine fnT C.spec_l4Seals ?_
  obtain ⟨hs, hl⟩ := hpre
  have hsl := sealsB_len ts hs
  refine run ?_
  refine r_for ts.length (fun i => [(0, .sl false k ts.length 1 (rowT strC ts)), (4, .ref 0 [] 0 (sealsB (ts.take i)).length), (5, .v (.int .i64 i))]) (fun i => [⟨1, true, rowT u8C (sealsB (ts.take i))⟩]) (fun _ => True) [0] [] trivial Gc.of (fun i hi _ => ?_) (fun _ => ?_)
  · have h1 := hs _ (nth_mem hi)
    have h2 := sealsB_len (ts.take i) fun t ht => hs t (List.mem_of_mem_take ht)
    have h3 := sealB_len (strL (nth ts (i : Nat)))
    have h4 := strL_length (nth ts (i : Nat))
    have h5 := bytesP_str (nth ts (i : Nat))
    rw [List.length_take] at h2
    refine run ?_
    rw [sealsB_take hi]
    exact ⟨[2], [], Gc.of, trivial⟩
  · rw [List.take_length]
    refine run ?_
    exact r_end [] []
instance (k : Nat) (ts : List ByteArray) : Con Try.prog F.spec_l4Seals [.sl false k ts.length 1 (rowT strC ts)] ((∀ s ∈ ts, s.size ≤ 3000) ∧ ts.length ≤ 100) (.tup [.v (.string (strOfT (sealsB ts))), .v (.bool true)]) [] := ⟨fun h => spec_l4Seals k ts h⟩

end Go.TL

/- What is added to a disk's file, and to a journal, by the reference. No conditions but those that are written. -/
namespace Go.TL
set_option linter.unusedSimpArgs false
open Go.Proofs Go.RowKit
attribute [local irreducible] wpOpsT wpT EndT Ex.seq Ex.block W

/-- The file with more. -/
def dapF (l : List FileV) (n : Int) (s : ByteArray) : FileV := if 0 ≤ findF l n then ⟨(nth l (findF l n)).name, (nth l (findF l n)).safe, (nth l (findF l n)).late ++ s⟩ else ⟨n, ⟨#[]⟩, ⟨#[]⟩ ++ s⟩

set_option linter.unusedSimpArgs false in
set_option maxHeartbeats 8000000 in
theorem spec_DiskAppendD (k : Nat) (room : Int) (l : List FileV) (n : Int) (s : ByteArray) (hb : bndFileS l) (ht : totFileS l ≤ 1048576) (hd : diskP room l) (hn : 0 ≤ n ∧ n ≤ 7) (hs : s.size ≤ room - diskS l) :
    CallsT Try.prog [] F.spec_DiskAppend [.agg [.v (.int .i64 room), .sl false k l.length 3 (rowT fileC l)], .v (.int .i64 n), .v (.string s)] (.tup [.agg [.v (.int .i64 room), .sl false 0 (pfL (dapF l n s) l).length 3 (rowT fileC (pfL (dapF l n s) l))], .v (.int .i64 0)]) [] := by
  have hb1 := hb.1
  have hll := fileP_len hd.2.2
  have hds := diskS_nn l
  have hdt := diskS_tot l
  have hr := hd.1
  have hf : -1 ≤ findF l n ∧ findF l n < l.length := findBy_b _ l
  have hx := nthF_b hb (findF l n)
  have hxt := fileV_tot hb (findF l n)
  obtain ⟨hx1, hx2⟩ := hx
  have ho1 := spec_DiskOk 1 room l ⟨hb, ht⟩
  rw [decide_eq_true hd] at ho1
  have hlate : ((nth l (findF l n)).late ++ s).size ≤ 140737488351232 := by rw [ByteArray.size_append]; omega
  have h0s : (⟨#[]⟩ : ByteArray).size = 0 := rfl
  have hnew : ((⟨#[]⟩ : ByteArray) ++ s).size ≤ 140737488351232 := by rw [ByteArray.size_append]; omega
  refine fnT C.spec_DiskAppend ?_
  refine runC ?_
  refine r_callp true ho1 ?_
  refine run ?_
  refine r_ifd (fun h => ?_) (fun h => ?_)
  · rw [show dapF l n s = ⟨(nth l (findF l n)).name, (nth l (findF l n)).safe, (nth l (findF l n)).late ++ s⟩ from if_pos h]
    have hp := spec_l3Put 1 room l ⟨(nth l (findF l n)).name, (nth l (findF l n)).safe, (nth l (findF l n)).late ++ s⟩ (by omega) hb ⟨hx1, hlate⟩
    dsimp only at hp
    refine run ?_
    refine r_callp true hp ?_
    refine run ?_
    exact r_end [] []
  rw [show dapF l n s = ⟨n, ⟨#[]⟩, ⟨#[]⟩ ++ s⟩ from if_neg h]
  have hp := spec_l3Put 1 room l ⟨n, ⟨#[]⟩, ⟨#[]⟩ ++ s⟩ (by omega) hb ⟨(show (⟨#[]⟩ : ByteArray).size ≤ 140737488351232 by decide), hnew⟩
  dsimp only at hp
  refine run ?_
  refine r_callp true hp ?_
  refine run ?_
  exact r_end [] []

set_option linter.unusedSimpArgs false in
set_option maxHeartbeats 8000000 in
theorem spec_DiskSyncD (k : Nat) (room : Int) (l : List FileV) (n : Int) (hb : bndFileS l) (ht : totFileS l ≤ 1048576) (hd : diskP room l) (hn : 0 ≤ n ∧ n ≤ 7) (hf0 : 0 ≤ findF l n) :
    CallsT Try.prog [] F.spec_DiskSync [.agg [.v (.int .i64 room), .sl false k l.length 3 (rowT fileC l)], .v (.int .i64 n)] (.tup [.agg [.v (.int .i64 room), .sl false 0 (pfL ⟨n, (nth l (findF l n)).safe ++ (nth l (findF l n)).late, ⟨#[]⟩⟩ l).length 3 (rowT fileC (pfL ⟨n, (nth l (findF l n)).safe ++ (nth l (findF l n)).late, ⟨#[]⟩⟩ l))], .v (.int .i64 0)]) [] := by
  have hb1 := hb.1
  have hll := fileP_len hd.2.2
  have hf : -1 ≤ findF l n ∧ findF l n < l.length := findBy_b _ l
  have hx := nthF_b hb (findF l n)
  have hxt := fileV_tot hb (findF l n)
  obtain ⟨hx1, hx2⟩ := hx
  have ho1 := spec_DiskOk 1 room l ⟨hb, ht⟩
  rw [decide_eq_true hd] at ho1
  have hnew : ((nth l (findF l n)).safe ++ (nth l (findF l n)).late).size ≤ 140737488351232 := by rw [ByteArray.size_append]; omega
  have hp := spec_l3Put 1 room l ⟨n, (nth l (findF l n)).safe ++ (nth l (findF l n)).late, ⟨#[]⟩⟩ (by omega) hb ⟨hnew, (show (⟨#[]⟩ : ByteArray).size ≤ 140737488351232 by decide)⟩
  dsimp only at hp
  refine fnT C.spec_DiskSync ?_
  refine runC ?_
  refine r_callp true ho1 ?_
  refine run ?_
  refine r_callp true hp ?_
  refine run ?_
  exact r_end [] []

set_option linter.unusedSimpArgs false in
set_option maxHeartbeats 8000000 in
theorem spec_JournalLateD (k k2 : Nat) (room : Int) (l : List FileV) (n : Int) (ts : List ByteArray) (hb : bndFileS l) (ht : totFileS l ≤ 1048576) (hd : diskP room l) (hn : 0 ≤ n ∧ n ≤ 7) (hts : ∀ s ∈ ts, s.size ≤ 3000) (htl : ts.length ≤ 100) (hs : (sealsB ts).length ≤ room - diskS l) :
    CallsT Try.prog [] F.spec_JournalLate [.agg [.v (.int .i64 room), .sl false k l.length 3 (rowT fileC l)], .v (.int .i64 n), .sl false k2 ts.length 1 (rowT strC ts)] (.tup [.agg [.v (.int .i64 room), .sl false 0 (pfL (dapF l n (strOfT (sealsB ts))) l).length 3 (rowT fileC (pfL (dapF l n (strOfT (sealsB ts))) l))], .v (.int .i64 0)]) [] := by
  have hz := strOf_size (sealsB ts)
  have hp := spec_DiskAppendD 1 room l n (strOfT (sealsB ts)) hb ht hd hn (by omega)
  have hq := spec_l4Seals 1 ts ⟨hts, htl⟩
  refine fnT C.spec_JournalLate ?_
  refine runC ?_
  refine r_callp true hq ?_
  refine runC ?_
  refine r_callp true hp ?_
  refine run ?_
  exact r_end [] []

theorem findF_nil (n : Int) : findF [] n = -1 := rfl
theorem findF_one (f : FileV) : findF [f] f.name = 0 :=
  findBy_at (p := fun g : FileV => decide (g.name = f.name)) (i := 0) (by simp) (by rw [nth_nat (by simp)]; simp) all_0
theorem nth_0 {α : Type} [Inhabited α] (x : α) (l : List α) : nth (x :: l) 0 = x := rfl
theorem pfL_nil (f : FileV) : pfL f [] = [f] := rfl
theorem pfL_one {f g : FileV} (h : g.name = f.name) : pfL f [g] = [f] := by
  have e : pfSt f [g] = ([f], true) := by
    show pfStep f ([], false) g = _
    simp [pfStep, h]
  rw [pfL, e]; rfl
/-- The file of a new journal. -/
def jaF (n : Int) (ts : List ByteArray) : FileV := ⟨n, strOfT (sealsB ts), ⟨#[]⟩⟩

set_option linter.unusedSimpArgs false in
set_option maxHeartbeats 8000000 in
theorem spec_JournalAdd0 (k k2 : Nat) (room n : Int) (ts : List ByteArray) (hr : 0 ≤ room ∧ room ≤ 40000) (hn : 0 ≤ n ∧ n ≤ 7) (hts : ∀ s ∈ ts, s.size ≤ 3000) (htl : ts.length ≤ 100) (hs : (sealsB ts).length ≤ room) :
    CallsT Try.prog [] F.spec_JournalAdd [.agg [.v (.int .i64 room), .sl false k 0 3 []], .v (.int .i64 n), .sl false k2 ts.length 1 (rowT strC ts)] (.tup [.agg [.v (.int .i64 room), .sl false 0 [jaF n ts].length 3 (rowT fileC [jaF n ts])], .v (.int .i64 0)]) [] := by
  have hz := strOf_size (sealsB ts)
  have hb0 : bndFileS [] := ⟨by decide, fun x hx => by cases hx⟩
  have hd0 : diskP room [] := ⟨hr, by show (0 : Int) ≤ room; omega, fun i hi => absurd hi (Nat.not_lt_zero _)⟩
  have h1 := spec_JournalLateD 1 1 room [] n ts hb0 (by decide) hd0 hn hts htl (by show ((sealsB ts).length : Int) ≤ room - 0; omega)
  have e1 : dapF [] n (strOfT (sealsB ts)) = ⟨n, ⟨#[]⟩, strOfT (sealsB ts)⟩ := by
    rw [dapF, findF_nil, if_neg (by decide), show (⟨#[]⟩ : ByteArray) ++ strOfT (sealsB ts) = strOfT (sealsB ts) from ByteArray.empty_append]
  rw [e1, pfL_nil] at h1
  generalize hS : strOfT (sealsB ts) = S at *
  have hb1 : bndFileS [⟨n, ⟨#[]⟩, S⟩] := ⟨by simp, fun x hx => by
    rw [List.mem_singleton] at hx
    subst hx
    exact ⟨(show (⟨#[]⟩ : ByteArray).size ≤ 140737488351232 by decide), by dsimp only; omega⟩⟩
  have hds : diskS [⟨n, ⟨#[]⟩, S⟩] = S.size := by simp [diskS, sumI, fileS]; exact Int.zero_add _
  have htt : totFileS [⟨n, ⟨#[]⟩, S⟩] ≤ 1048576 := by
    have : totFileS [⟨n, ⟨#[]⟩, S⟩] = 1 + S.size := by simp [totFileS, sumI, totFileV, totFile]; exact Int.zero_add _
    omega
  have hd1 : diskP room [⟨n, ⟨#[]⟩, S⟩] := ⟨hr, by rw [hds]; omega, fun i hi => by
    obtain rfl : i = 0 := by simpa using hi
    exact ⟨hn, fun k => absurd k.1 (by decide)⟩⟩
  have h2 := spec_DiskSyncD 1 room [⟨n, ⟨#[]⟩, S⟩] n hb1 htt hd1 hn (by rw [findF_one ⟨n, ⟨#[]⟩, S⟩]; decide)
  rw [findF_one ⟨n, ⟨#[]⟩, S⟩, nth_0] at h2
  dsimp only at h2
  rw [show (⟨#[]⟩ : ByteArray) ++ S = S from ByteArray.empty_append, pfL_one (f := ⟨n, S, ⟨#[]⟩⟩) (g := ⟨n, ⟨#[]⟩, S⟩) rfl, show (⟨n, S, ⟨#[]⟩⟩ : FileV) = jaF n ts by rw [jaF, hS]] at h2
  refine fnT C.spec_JournalAdd ?_
  refine runC ?_
  refine r_callp true h1 ?_
  refine runC ?_
  refine r_callp true h2 ?_
  refine run ?_
  exact r_end [] []

end Go.TL
