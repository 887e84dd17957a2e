/- SHA-256: a block, the implementation. No conditions but those that are written. -/
import Derived.Test.YtdnclbghhdflmaaS5
import Derived.Test.YtdnclbghhdflmaaTDr2
namespace Go.TL
open Go.Proofs Go.RowKit
attribute [local irreducible] wpOpsT wpT EndT Ex.seq Ex.block W

/-- One of a row of ints that is held as a value. -/
@[go_sem] theorem index_ints {P : Program} (t : TypeId) (l : List Int) (q : IntKind) {i : Int} (h : 0 ≤ i ∧ i < (l.length : Int)) : indexT P t (.agg (rowT i64C l)) (.v (.int q i)) = (match arrT P t with
    | some (n, e) => match szT P e, aggT P e with
      | some sz, some agg => if sz = 1 ∧ agg = false then chk (i < n) (some (.v (.int .i64 (nth l i)))) else (if 0 ≤ i ∧ i < n then (if agg then (if i.toNat * sz + sz ≤ (rowT i64C l).length then some (.agg (((rowT i64C l).drop (i.toNat * sz)).take sz)) else none) else (rowT i64C l)[i.toNat * sz]?) else none)
      | _, _ => none
    | none => none) := by
  unfold indexT
  dsimp only
  cases arrT P t with
  | none => rfl
  | some x =>
    obtain ⟨n, e⟩ := x
    dsimp only
    cases szT P e with
    | none => rfl
    | some sz =>
      cases aggT P e with
      | none => rfl
      | some agg =>
        dsimp only
        by_cases h1 : sz = 1 ∧ agg = false
        · rw [if_pos h1]
          obtain ⟨rfl, rfl⟩ := h1
          unfold chk
          by_cases h2 : i < n
          · rw [if_pos ⟨h.1, h2⟩, if_pos h2, if_neg Bool.false_ne_true]
            have := row_cell (enc := i64C) (sz := 1) (l := l) (x := i) 0 (by omega) (by decide)
            rw [Nat.add_zero] at this
            rw [this]; rfl
          · rw [if_neg (fun h3 => h2 h3.2), if_neg h2]
        · rw [if_neg h1]

def mixS (s v : St) (i : Nat) : St := ⟨if 0 < i then (s.a + v.a) % 4294967296 else s.a, if 1 < i then (s.b + v.b) % 4294967296 else s.b, if 2 < i then (s.c + v.c) % 4294967296 else s.c, if 3 < i then (s.d + v.d) % 4294967296 else s.d, if 4 < i then (s.e + v.e) % 4294967296 else s.e, if 5 < i then (s.f + v.f) % 4294967296 else s.f, if 6 < i then (s.g + v.g) % 4294967296 else s.g, if 7 < i then (s.h + v.h) % 4294967296 else s.h⟩
theorem mix_0 (s v : St) : mixS s v 0 = s := rfl
theorem mix_8 (s v : St) : mixS s v 8 = addS s v := rfl
theorem mix_at (s v : St) : ∀ i : Nat, i < 8 → nth (stL (mixS s v i)) i = nth (stL s) i
  | 0, _ => rfl
  | 1, _ => rfl
  | 2, _ => rfl
  | 3, _ => rfl
  | 4, _ => rfl
  | 5, _ => rfl
  | 6, _ => rfl
  | 7, _ => rfl
theorem mix_set (s v : St) : ∀ i : Nat, i < 8 → (stL (mixS s v i)).set i (nth (stL (addS s v)) i) = stL (mixS s v (i + 1))
  | 0, _ => rfl
  | 1, _ => rfl
  | 2, _ => rfl
  | 3, _ => rfl
  | 4, _ => rfl
  | 5, _ => rfl
  | 6, _ => rfl
  | 7, _ => rfl

set_option maxHeartbeats 4000000 in
theorem impl_round (k : Nat) (s : St) (b : List Int) (hpre : (b.length = 64 ∧ Bytes b) ∧ StW s) : CallsT Try.prog [] F.impl_round [.agg (rowT i64C (stL s)), .sl false k b.length 1 (rowT u8C b)] (.agg (rowT i64C (stL (blockS s b)))) [] := by
  refine fnT C.impl_round ?_
  obtain ⟨hbb, hs⟩ := hpre
  have hb2 := hbb.2
  have hk8 : (stL s).length = 8 := rfl
  refine r_seq ?_
  refine r_region ?_
  refine r_do (t := .ptr 0 [] 0) (S' := [⟨0, true, rowT i64C (stL s)⟩]) ?_ (hs := by kernel_rfl)
  refine r_do (t := .ptr 1 [] 0) (S' := [⟨0, true, rowT i64C (stL s)⟩, ⟨0, true, rowT i64C (List.replicate 8 0)⟩]) ?_ (hs := by kernel_rfl)
  refine r_ops ?_
  refine x_seq_n ?_
  refine r_seq ?_
  refine r_region ?_
  refine r_callc ?_
  refine r_do (t := .ptr 2 [] 0) (S' := [⟨0, true, rowT i64C (stL s)⟩, ⟨0, true, rowT i64C (List.replicate 8 0)⟩, ⟨0, true, rowT i64C z64⟩]) ?_ (hs := by kernel_rfl)
  refine r_stl (l0 := z64) ?_ (hl := by rfl) (h0 := List.length_replicate)
  refine r_ops ?_
  refine x_seq_n ?_
  refine r_seq ?_
  refine r_region ?_
  refine r_do ?_
  refine r_callc ?_
  refine r_do (t := .ptr 3 [] 0) (S' := [⟨0, true, rowT i64C (stL s)⟩, ⟨0, true, rowT i64C (List.replicate 8 0)⟩, ⟨0, true, rowT i64C keysL⟩, ⟨0, true, rowT i64C z64⟩]) ?_ (hs := by kernel_rfl)
  have hz := expW_len b 64
  refine r_stl (l0 := z64) ?_ (hl := hz) (h0 := List.length_replicate)
  refine run ?_
  have hkl : keysL.length = 64 := rfl
  refine r_for 64 (fun i => [(2, .ptr 0 [] 0), (4, .ptr 1 [] 0), (5, .ptr 2 [] 0), (6, .ptr 3 [] 0), (7, .v (.int .i64 ((roundS b s i).a))), (8, .v (.int .i64 ((roundS b s i).b))), (9, .v (.int .i64 ((roundS b s i).c))), (10, .v (.int .i64 ((roundS b s i).d))), (11, .v (.int .i64 ((roundS b s i).e))), (12, .v (.int .i64 ((roundS b s i).f))), (13, .v (.int .i64 ((roundS b s i).g))), (14, .v (.int .i64 ((roundS b s i).h))), (41, .v (.int .i64 i))]) (fun _ => [⟨0, true, rowT i64C (stL s)⟩, ⟨0, true, rowT i64C (List.replicate 8 0)⟩, ⟨0, true, rowT i64C keysL⟩, ⟨0, true, rowT i64C (expW b 64)⟩]) (fun _ => True) [0, 1, 2, 3] [] trivial Gc.of (fun i hi _ => ?_) (fun _ => ?_)
  · have hv := round_w b hs i
    rw [show roundS b s (i + 1) = stepS (roundS b s i) (nth keysL i) (nth (expW b 64) i) from rfl]
    generalize roundS b s i = v at hv ⊢
    have hw := nth_word (expW_word hb2 64) i
    have hk := nth_word keys_w i
    obtain ⟨ha, hb, hc, hd, he, hf, hg, hh⟩ := hv
    have h1 := S1_b v.e
    have h0 := S0_b v.a
    have hch := ch_b he hf hg
    have hmj := maj_b ha hb hc
    simp only [Word, S1I, S0I, chI, majI] at ha hb hc hd he hf hg hh hw hk h1 h0 hch hmj
    refine run ?_
    exact ⟨[0, 1, 2, 3], [], Gc.of, trivial⟩
  have hv := round_w b hs 64
  rw [show blockS s b = addS s (roundS b s 64) from rfl]
  generalize roundS b s 64 = v at hv ⊢
  refine run ?_
  refine r_do (t := .agg (rowT i64C (stL v))) (S' := [⟨0, true, rowT i64C (stL s)⟩, ⟨0, true, rowT i64C (List.replicate 8 0)⟩, ⟨0, true, rowT i64C keysL⟩, ⟨0, true, rowT i64C (expW b 64)⟩]) ?_ (hs := by kernel_rfl)
  refine run ?_
  refine r_for 8 (fun i => [(2, .ptr 0 [] 0), (4, .ptr 1 [] 0), (116, .agg (rowT i64C (stL v))), (117, .v (.int .i64 i))]) (fun i => [⟨0, true, rowT i64C (stL (mixS s v i))⟩, ⟨0, true, rowT i64C (List.replicate 8 0)⟩]) (fun _ => True) [0, 1] [] trivial Gc.of (fun i hi _ => ?_) (fun _ => ?_)
  · have h1 := nth_word (st_w hs) i
    have h2 := nth_word (st_w hv) i
    have h3 := add_nth s v i hi
    have h4 := mix_at s v i hi
    have h5 := mix_set s v i hi
    have hlv : (stL v).length = 8 := rfl
    have hlm : (stL (mixS s v i)).length = 8 := rfl
    unfold Word at h1 h2
    rw [← h4] at h1
    refine run ?_
    refine r_sta (enc := i64C) _ i (nth (stL (addS s v)) i) ?_ (hy := by set_option linter.unusedSimpArgs false in simp (disch := omega) only [h4, h3, go_sem, ↓reduceIte, Nat.reduceEqDiff, Nat.reduceMul, Nat.reduceAdd, Nat.reduceSub, Nat.reduceLT, Nat.reduceGT, Nat.reduceLeDiff, Nat.reduceBEq, Int.reduceLT, Int.reduceLE, Int.reduceNe, Int.reduceEq, Int.reduceToNat, Int.reduceAdd, Int.reduceSub, Int.reduceMul, Int.reduceNeg, Nat.reducePow, Int.reducePow, Nat.reduceSubDiff, decide_true, decide_false, reduceCtorEq, or_self, or_false, false_or, or_true, true_or, if_false, gt_iff_lt, ge_iff_le, ne_eq, not_true_eq_false, not_false_eq_true, and_self, beq_self_eq_true, Bool.false_eq_true])
    rw [h5]
    refine run ?_
    exact ⟨[0, 1], [], Gc.of, trivial⟩
  · rw [mix_8]
    refine run ?_
    refine r_do0 (t := .dead) (S' := [⟨0, true, rowT i64C (stL (addS s v))⟩, ⟨0, true, rowT i64C (stL (addS s v))⟩]) ?_ (hs := by kernel_rfl)
    refine run ?_
    exact r_end [] [] (ts := [.agg (rowT i64C (stL (addS s v)))]) (hr := by kernel_rfl)
instance (k : Nat) (s : St) (b : List Int) : Con Try.prog F.impl_round [.agg (rowT i64C (stL s)), .sl false k b.length 1 (rowT u8C b)] ((b.length = 64 ∧ Bytes b) ∧ StW s) (.agg (rowT i64C (stL (blockS s b)))) [] := ⟨fun h => impl_round k s b h⟩

end Go.TL
