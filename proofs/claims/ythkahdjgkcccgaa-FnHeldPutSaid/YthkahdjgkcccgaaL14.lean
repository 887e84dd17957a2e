/- The law of HeldPut on trees. No conditions but those that are written. -/
import Derived.Test.YthkahdjgkcccgaaP2
namespace Go.TL
set_option linter.unusedSimpArgs false
open Go.Proofs Go.RowKit
attribute [local irreducible] wpOpsT wpT EndT Ex.seq Ex.block W

theorem sum_setE {α : Type} [Inhabited α] (f : α → Int) (l : List α) (n : Nat) (x : α) (h : n < l.length) (hf : f x = f (nth l (n : Nat))) : sumI f (l.set n x) = sumI f l := by
  have e : sumI f l = sumI f (l.take n) + sumI f (nth l (n : Nat) :: l.drop (n + 1)) := by
    conv => lhs; rw [← List.take_append_drop n l, List.drop_eq_getElem_cons h, sum_app]
    rw [nth_nat h]
  rw [List.set_eq_take_append_cons_drop, if_pos h, sum_app, e]
  simp only [sumI, List.map_cons, List.sum_cons, hf]

theorem putP_ok {sz : Int} {d : ByteArray} {l : List ByteArray} {i : Int} {s : ByteArray} (h : (putP sz d l i s).2 = 0) : (putP sz d l i s).1 = ⟨sz, d, l.set i.toNat s⟩ := by
  unfold putP at h ⊢
  split at h
  · rename_i h1
    rw [if_pos h1]
    split at h
    · cases h
    · rename_i h2
      rw [if_neg h2]
      split at h
      · cases h
      · rename_i h3
        rw [if_neg h3]
  · cases h

theorem bnd_putH {l : List HeldV} {r i : Int} {s : ByteArray} (hb : bndHS l) (hs : s.size ≤ 1048576) : bndHS (putH l r i s).1 ∧ costHS (putH l r i s).1 = costHS l := by
  have hfb := find_b l r
  unfold putH
  split
  · exact ⟨hb, rfl⟩
  rename_i h1
  generalize findH l r = fi at *
  obtain ⟨n, rfl⟩ := Int.eq_ofNat_of_zero_le (show 0 ≤ fi by omega)
  have hn : n < l.length := by omega
  have hx : bndP (nth l (n : Nat)).dig (nth l (n : Nat)).parts := hb.2 _ (nth_mem hn)
  split
  · rename_i h2
    rw [putP_ok h2, Int.toNat_natCast]
    refine ⟨⟨by rw [List.length_set]; exact hb.1, fun h hm => ?_⟩, sum_setE costH l n _ hn ?_⟩
    · rcases List.mem_or_eq_of_mem_set hm with hm | rfl
      · exact hb.2 _ hm
      · refine ⟨hx.1, by rw [List.length_set]; exact hx.2.1, fun t ht => ?_⟩
        rcases List.mem_or_eq_of_mem_set ht with ht | rfl
        · exact hx.2.2 _ ht
        · omega
    · simp only [costH, List.length_set]
  · exact ⟨hb, rfl⟩

theorem eqHeldS0 : CallsT Try.prog [] F.laws_eqHeldS [.sl false 1 0 4 [], .sl false 1 0 4 []] (.v (.bool true)) [] := laws_eqHeldS 1 1 [] ⟨by simp, fun _ h => by cases h⟩
theorem heldHeldS0 : CallsT Try.prog [] F.laws_heldHeldS [.sl false 1 0 4 [], .v (.int .i64 1)] (.v (.int .i64 1)) [] := laws_heldHeldS 1 1 [] ⟨by decide, by decide⟩
theorem markHeldS0 : CallsT Try.prog [] F.laws_markHeldS [.sl false 1 0 4 [], .v (.int .i64 1)] (.v (.int .i64 1)) [] := by
  refine fnT C.laws_markHeldS ?_
  refine run ?_
  refine r_for 0 (fun i => [(0, .sl false 1 0 4 []), (1, .v (.int .i64 1)), (5, .v (.int .i64 i))]) (fun _ => []) (fun _ => True) [] [] trivial Gc.of (fun i hi _ => absurd hi (Nat.not_lt_zero _)) (fun _ => ?_)
  refine run ?_
  exact r_end [] []

set_option maxHeartbeats 8000000 in
set_option maxHeartbeats 4000000 in
theorem laws_FnExactHeldPut (k : Nat) (l : List HeldV) (r i : Int) (s : ByteArray) (hpre : bndHS l ∧ s.size ≤ 140737488355328) : CallsT Try.prog [] F.laws_FnExactHeldPut [.sl false k l.length 4 (rowT heldC l), .v (.int .i64 r), .v (.int .i64 i), .v (.string s)] (.v (.bool true)) [] := by
  refine fnT C.laws_FnExactHeldPut ?_
  obtain ⟨hb, hs⟩ := hpre
  refine run ?_
  refine r_ifd (fun h0 => ?_) (fun h0 => ?_)
  · refine run ?_
    exact r_end [] []
  refine run ?_
  refine r_ifd (fun h => ?_) (fun h => ?_)
  · refine run ?_
    exact r_end [] []
  have hc := cutI_nn h
  rw [hc.1]
  have ht : totHS l ≤ 1048576 := by omega
  have hcl := costHS_tot l
  have hcn : 0 ≤ costHS l := sum_nn costH_nn l
  have hto := toHeldSO 1 l hb
  have hneg : ¬ (1 + costHS l < 0) := by omega
  by_cases hok : heldsP l
  · have hsp := spec_HeldPutO l r i s hb ht hok
    have him := impl_HeldPutO l r i s hb ht hok
    have hbq := bnd_putH (l := l) (r := r) (i := i) (s := s) hb (by omega)
    generalize putH l r i s = q at *
    obtain ⟨hbq, hcq⟩ := hbq
    have hnegq : ¬ (1 + costHS q.1 < 0) := by omega
    refine runC ?_
    refine r_callp true hto ?_
    refine runC ?_
    refine r_callp true hsp ?_
    refine runC ?_
    refine r_callp true hto ?_
    refine runC ?_
    refine r_callp true him ?_
    refine run ?_
    refine r_calln [2] (markHeldS1 l 1 (by omega) (by omega)) ?_
    refine r_do ?_
    repeat (first | refine r_seq ?_ | refine r_region ?_ | refine r_ops ?_ | refine x_seq_n ?_)
    refine r_do ?_
    refine r_do ?_
    rw [decide_eq_false hneg]
    refine run ?_
    refine r_calln [3] (markHeldS1 q.1 1 (by omega) (by omega)) ?_
    refine runC ?_
    refine r_calln [3] (heldHeldSR q.1 1 (by omega) (by omega)) ?_
    refine runC ?_
    refine r_callp true hto ?_
    refine runC ?_
    refine r_callp true him ?_
    refine run ?_
    refine r_calln [3] (heldHeldSR q.1 1 (by omega) (by omega)) ?_
    refine run ?_
    exact r_end [] []
  · have hsp := spec_HeldPutB 1 l r i s hb hok
    have him := impl_HeldPutB 1 l r i s hb hok
    refine runC ?_
    refine r_callp true hto ?_
    refine runC ?_
    refine r_callp true hsp ?_
    refine runC ?_
    refine r_callp true hto ?_
    refine runC ?_
    refine r_callp true him ?_
    refine runC ?_
    refine r_callp true eqHeldS0 ?_
    refine run ?_
    refine r_calln [1] (markHeldS1 l 1 (by omega) (by omega)) ?_
    refine r_do ?_
    repeat (first | refine r_seq ?_ | refine r_region ?_ | refine r_ops ?_ | refine x_seq_n ?_)
    refine r_do ?_
    refine r_do ?_
    rw [decide_eq_false hneg]
    refine runC ?_
    refine r_callp true eqHeldS0 ?_
    refine runC ?_
    refine r_callp true markHeldS0 ?_
    refine runC ?_
    refine r_callp true heldHeldS0 ?_
    refine runC ?_
    refine r_callp true hto ?_
    refine runC ?_
    refine r_callp true him ?_
    refine runC ?_
    refine r_callp true eqHeldS0 ?_
    refine runC ?_
    refine r_callp true heldHeldS0 ?_
    refine run ?_
    exact r_end [] []
instance (k : Nat) (l : List HeldV) (r i : Int) (s : ByteArray) : Con Try.prog F.laws_FnExactHeldPut [.sl false k l.length 4 (rowT heldC l), .v (.int .i64 r), .v (.int .i64 i), .v (.string s)] (bndHS l ∧ s.size ≤ 140737488355328) (.v (.bool true)) [] := ⟨fun h => laws_FnExactHeldPut k l r i s h⟩

end Go.TL
