/- The law of HeldPut on trees. No conditions but those that are written. -/
import Derived.Test.YtneiifghegdfgaaJP2P3
namespace Go.TL
set_option linter.unusedSimpArgs false
open Go.Proofs Go.RowKit
attribute [local irreducible] wpOpsT wpT EndT Ex.seq Ex.block W

theorem sum_setE {α : Type} [Inhabited α] (f : α → Int) (l : List α) (n : Nat) (x : α) (h : n < l.length) (hf : f x = f (nth l (n : Nat))) : sumI f (l.set n x) = sumI f l := by
  have e : sumI f l = sumI f (l.take n) + sumI f (nth l (n : Nat) :: l.drop (n + 1)) := by
    conv => lhs; rw [← List.take_append_drop n l, List.drop_eq_getElem_cons h, sum_app]
    rw [nth_nat h]
  rw [List.set_eq_take_append_cons_drop, if_pos h, sum_app, e]
  simp only [sumI, List.map_cons, List.sum_cons, hf]

theorem putP_ok {sz : Int} {d : ByteArray} {l : List ByteArray} {i : Int} {s : ByteArray} (h : (putP sz d l i s).2 = 0) : (putP sz d l i s).1 = ⟨sz, d, l.set i.toNat s⟩ := by
  unfold putP at h ⊢
  split at h
  · rename_i h1
    rw [if_pos h1]
    split at h
    · cases h
    · rename_i h2
      rw [if_neg h2]
      split at h
      · cases h
      · rename_i h3
        rw [if_neg h3]
  · cases h

theorem bnd_putH {l : List HeldV} {r i : Int} {s : ByteArray} (hb : bndHS l) (hs : s.size ≤ 1048576) : bndHS (putH l r i s).1 ∧ costHS (putH l r i s).1 = costHS l := by
  have hfb := find_b l r
  unfold putH
  split
  · exact ⟨hb, rfl⟩
  rename_i h1
  generalize findH l r = fi at *
  obtain ⟨n, rfl⟩ := Int.eq_ofNat_of_zero_le (show 0 ≤ fi by omega)
  have hn : n < l.length := by omega
  have hx : bndP (nth l (n : Nat)).dig (nth l (n : Nat)).parts := hb.2 _ (nth_mem hn)
  split
  · rename_i h2
    rw [putP_ok h2, Int.toNat_natCast]
    refine ⟨⟨by rw [List.length_set]; exact hb.1, fun h hm => ?_⟩, sum_setE costH l n _ hn ?_⟩
    · rcases List.mem_or_eq_of_mem_set hm with hm | rfl
      · exact hb.2 _ hm
      · refine ⟨hx.1, by rw [List.length_set]; exact hx.2.1, fun t ht => ?_⟩
        rcases List.mem_or_eq_of_mem_set ht with ht | rfl
        · exact hx.2.2 _ ht
        · omega
    · simp only [costH, List.length_set]
  · exact ⟨hb, rfl⟩

theorem eqHeldS0 : CallsT Try.prog [] F.laws_eqHeldS [.sl false 1 0 4 [], .sl false 1 0 4 []] (.v (.bool true)) [] := laws_eqHeldS 1 1 [] ⟨by simp, fun _ h => by cases h⟩
theorem heldHeldS0 : CallsT Try.prog [] F.laws_heldHeldS [.sl false 1 0 4 [], .v (.int .i64 1)] (.v (.int .i64 1)) [] := laws_heldHeldS 1 1 [] ⟨by decide, by decide⟩
theorem markHeldS0 : CallsT Try.prog [] F.laws_markHeldS [.sl false 1 0 4 [], .v (.int .i64 1)] (.v (.int .i64 1)) [] := by
  refine fnT C.laws_markHeldS ?_
  refine run ?_
  refine r_for 0 (fun i => [(0, .sl false 1 0 4 []), (1, .v (.int .i64 1)), (5, .v (.int .i64 i))]) (fun _ => []) (fun _ => True) [] [] trivial Gc.of (fun i hi _ => absurd hi (Nat.not_lt_zero _)) (fun _ => ?_)
  refine run ?_
  exact r_end [] []

end Go.TL
