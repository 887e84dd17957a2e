/- What is drawn of texts and of helds: that there is a value and a place of the cursor, whatever the bytes. No conditions but those that are written. -/
import Derived.Test.YthkahdjgkcccgaaG5
import Derived.Test.YthkahdjgkcccgaaP3
namespace Go.TL
set_option linter.unusedSimpArgs false
open Go.Proofs Go.RowKit
attribute [local irreducible] wpOpsT wpT EndT Ex.seq Ex.block W

/-- Bytes that are drawn one behind the other. -/
def bytesF (l : List Int) (c : Int × Int) : Nat → List Int × (Int × Int)
  | 0 => ([], c)
  | n + 1 => ((bytesF l c n).1 ++ [drawB l (bytesF l c n).2.1 (bytesF l c n).2.2], (drawN l (bytesF l c n).2.1, stepSt (bytesF l c n).2.2))
theorem bytesF_ok {l : List Int} {c : Int × Int} (h : curP l c.1) : ∀ n, curP l (bytesF l c n).2.1 ∧ (bytesF l c n).1.length = n ∧ ∀ x ∈ (bytesF l c n).1, 0 ≤ x ∧ x < 256
  | 0 => ⟨h, rfl, fun x hx => by cases hx⟩
  | n + 1 => by
    obtain ⟨h1, h2, h3⟩ := bytesF_ok h n
    refine ⟨cur_next h1, by rw [bytesF, List.length_append, h2]; rfl, fun x hx => ?_⟩
    rw [bytesF] at hx
    rcases List.mem_append.1 hx with hx | hx
    · exact h3 x hx
    · rw [List.mem_singleton.1 hx]
      have := drawB_b l (bytesF l c n).2.1 (bytesF l c n).2.2
      omega

set_option linter.unusedSimpArgs false in
theorem bytes_ex (l : List Int) (c : Int × Int) (most : Int) (hc : curP l c.1) (hm : 0 ≤ most ∧ most ≤ 1000) : ∃ (xs : List Int) (c' : Int × Int), ((xs.length : Int) ≤ most ∧ ∀ x ∈ xs, 0 ≤ x ∧ x < 256) ∧ curP l c'.1 ∧ CallsT Try.prog [⟨0, true, [.sl false 0 l.length 1 (rowT u8C l), .v (.int .i64 c.1), .v (.int .i64 c.2)]⟩] F.spec_l1DrawBytes [.ptr 0 [] 0, .v (.int .i64 most)] (.sl false 0 xs.length 1 (rowT u8C xs)) [⟨0, true, [.sl false 0 l.length 1 (rowT u8C l), .v (.int .i64 (c'.1)), .v (.int .i64 (c'.2))]⟩] := by
  obtain ⟨v, c1, hv, hc1, h1⟩ := below_ex l c (most + 1) hc (by omega)
  have ok := bytesF_ok hc1
  obtain ⟨n, rfl⟩ := Int.eq_ofNat_of_zero_le hv.1
  refine ⟨(bytesF l c1 n).1, (bytesF l c1 n).2, ⟨by rw [(ok _).2.1]; omega, (ok _).2.2⟩, (ok _).1, ?_⟩
  refine fnT C.spec_l1DrawBytes ?_
  refine runC ?_
  refine r_call1p 0 h1 ?_
  refine run ?_
  refine r_for n (fun i => [(0, .ptr 0 [] 0), (5, .ref 1 [] 0 (bytesF l c1 i).1.length), (6, .v (.int .i64 n)), (7, .v (.int .i64 i))]) (fun i => [⟨0, true, [.sl false 0 l.length 1 (rowT u8C l), .v (.int .i64 ((bytesF l c1 i).2.1)), .v (.int .i64 ((bytesF l c1 i).2.2))]⟩, ⟨1, true, rowT u8C (bytesF l c1 i).1⟩]) (fun _ => True) [0, 1] [] trivial Gc.of (fun i hi _ => ?_) (fun _ => ?_)
  · have hb := ok i
    have hB := drawB_b l (bytesF l c1 i).2.1 (bytesF l c1 i).2.2
    rw [bytesF]
    generalize bytesF l c1 i = s at *
    refine runC ?_
    refine r_call1p 0 (spec_l1Byte l s.2.1 s.2.2 hb.1) ?_
    refine run ?_
    exact ⟨[0, 3], [], Gc.of, trivial⟩
  · refine run ?_
    exact r_end [0] [1] (hm := keep_one _)

theorem text_ex (l : List Int) (c : Int × Int) (most : Int) (hc : curP l c.1) (hm : 0 ≤ most ∧ most ≤ 1000) : ∃ (s : ByteArray) (c' : Int × Int), (s.size : Int) ≤ most ∧ curP l c'.1 ∧ CallsT Try.prog [⟨0, true, [.sl false 0 l.length 1 (rowT u8C l), .v (.int .i64 c.1), .v (.int .i64 c.2)]⟩] F.spec_l3DrawText [.ptr 0 [] 0, .v (.int .i64 most)] (.v (.string s)) [⟨0, true, [.sl false 0 l.length 1 (rowT u8C l), .v (.int .i64 (c'.1)), .v (.int .i64 (c'.2))]⟩] := by
  obtain ⟨xs, c', hx, hc', h⟩ := bytes_ex l c most hc hm
  refine ⟨strOfT xs, c', by rw [strOf_size]; exact hx.1, hc', ?_⟩
  refine fnT C.spec_l3DrawText ?_
  refine runC ?_
  refine r_call1p 0 h ?_
  refine run ?_
  exact r_end [0] [] (hm := keep_one _)

/-- The texts of which one is drawn. -/
def text5 (s : ByteArray) : List ByteArray := [{ data := #[122, 111, 110, 101, 32, 65, 32, 54, 48, 32, 45, 10] }, { data := #[122, 111, 110, 101, 32, 65, 32, 48, 32, 45, 10, 122, 111, 110, 101, 32, 66, 32, 51, 48, 32, 45, 10] }, { data := #[] }, { data := #[35, 32, 110, 111, 32, 122, 111, 110, 101, 32, 97, 116, 32, 97, 108, 108, 32, 105, 110, 32, 116, 104, 105, 115, 32, 111, 110, 101, 32, 104, 101, 114, 101, 10] }, s]
theorem text14_ex (l : List Int) (c : Int × Int) (hc : curP l c.1) : ∃ (s : ByteArray) (c' : Int × Int), s.size ≤ 40 ∧ curP l c'.1 ∧ CallsT Try.prog [⟨0, true, [.sl false 0 l.length 1 (rowT u8C l), .v (.int .i64 c.1), .v (.int .i64 c.2)]⟩] F.spec_l14DrawText [.ptr 0 [] 0] (.v (.string s)) [⟨0, true, [.sl false 0 l.length 1 (rowT u8C l), .v (.int .i64 (c'.1)), .v (.int .i64 (c'.2))]⟩] := by
  obtain ⟨s, c1, hs, hc1, h1⟩ := text_ex l c 40 hc (by omega)
  have hb := below_b (n := (text5 s).length) (by show (0 : Int) < 5; decide) l c1.1 c1.2
  refine ⟨nth (text5 s) (belowV (text5 s).length l c1.1 c1.2), (belowN (text5 s).length l c1.1, belowS (text5 s).length c1.2), ?_, by dsimp only; exact below_next ((text5 s).length : Int) hc1, ?_⟩
  · have hm : nth (text5 s) (belowV (text5 s).length l c1.1 c1.2) ∈ text5 s := by
      have := nth_mem (l := text5 s) (i := (belowV (text5 s).length l c1.1 c1.2).toNat) (by omega)
      rwa [nth_toNat] at this
    generalize nth (text5 s) (belowV (text5 s).length l c1.1 c1.2) = x at hm
    unfold text5 at hm
    simp only [List.mem_cons, List.not_mem_nil, or_false] at hm
    rcases hm with rfl | rfl | rfl | rfl | rfl
    all_goals first | omega | decide
  refine fnT C.spec_l14DrawText ?_
  refine runC ?_
  refine r_call1p 0 h1 ?_
  refine runC ?_
  refine r_call1p 0 (spec_l1Pick l c1.1 c1.2 1 (text5 s) ⟨hc1, by show 0 < 5; decide, by show 5 ≤ _; decide⟩) ?_
  refine run ?_
  exact r_end [0] [] (hm := keep_one _)

theorem rel_ex (l : List Int) (c : Int × Int) (hc : curP l c.1) : ∃ (v : Int) (c' : Int × Int), (0 ≤ v ∧ v ≤ 1001) ∧ curP l c'.1 ∧ CallsT Try.prog [⟨0, true, [.sl false 0 l.length 1 (rowT u8C l), .v (.int .i64 c.1), .v (.int .i64 c.2)]⟩] F.spec_l14DrawRelease [.ptr 0 [] 0] (.v (.int .i64 v)) [⟨0, true, [.sl false 0 l.length 1 (rowT u8C l), .v (.int .i64 (c'.1)), .v (.int .i64 (c'.2))]⟩] := by
  obtain ⟨b, c1, hc1, h1⟩ := once_ex l c 15 hc (by omega)
  cases b with
  | true =>
    obtain ⟨w, c2, hw, hc2, h2⟩ := pick_ex l c1 [0, 1000, 1001] hc1 ⟨by decide, by decide⟩
    refine ⟨w, c2, by simp at hw; omega, hc2, ?_⟩
    refine fnT C.spec_l14DrawRelease ?_
    refine runC ?_
    refine r_call1p 0 h1 ?_
    refine runC ?_
    refine r_call1p 0 (h2 1) ?_
    refine run ?_
    exact r_end [0] [] (hm := keep_one _)
  | false =>
    obtain ⟨w, c2, hw, hc2, h2⟩ := below_ex l c1 7 hc1 (by omega)
    refine ⟨1 + w, c2, by omega, hc2, ?_⟩
    refine fnT C.spec_l14DrawRelease ?_
    refine runC ?_
    refine r_call1p 0 h1 ?_
    refine runC ?_
    refine r_call1p 0 h2 ?_
    refine run ?_
    exact r_end [0] [] (hm := keep_one _)

end Go.TL
