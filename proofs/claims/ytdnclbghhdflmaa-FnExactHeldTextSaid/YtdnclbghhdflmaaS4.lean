/- SHA-256: a block, the reference. No conditions but those that are written. -/
import Derived.Test.YtdnclbghhdflmaaS3
namespace Go.TL
open Go.Proofs Go.RowKit
attribute [local irreducible] wpOpsT wpT EndT Ex.seq Ex.block W

@[go_sem] theorem st_0 (s : St) : nth (stL s) 0 = s.a := rfl
@[go_sem] theorem st_1 (s : St) : nth (stL s) 1 = s.b := rfl
@[go_sem] theorem st_2 (s : St) : nth (stL s) 2 = s.c := rfl
@[go_sem] theorem st_3 (s : St) : nth (stL s) 3 = s.d := rfl
@[go_sem] theorem st_4 (s : St) : nth (stL s) 4 = s.e := rfl
@[go_sem] theorem st_5 (s : St) : nth (stL s) 5 = s.f := rfl
@[go_sem] theorem st_6 (s : St) : nth (stL s) 6 = s.g := rfl
@[go_sem] theorem st_7 (s : St) : nth (stL s) 7 = s.h := rfl
@[go_sem] theorem st_c0 (s : St) : (rowT i64C (stL s))[0]? = some (.v (.int .i64 s.a)) := rfl
@[go_sem] theorem st_c1 (s : St) : (rowT i64C (stL s))[1]? = some (.v (.int .i64 s.b)) := rfl
@[go_sem] theorem st_c2 (s : St) : (rowT i64C (stL s))[2]? = some (.v (.int .i64 s.c)) := rfl
@[go_sem] theorem st_c3 (s : St) : (rowT i64C (stL s))[3]? = some (.v (.int .i64 s.d)) := rfl
@[go_sem] theorem st_c4 (s : St) : (rowT i64C (stL s))[4]? = some (.v (.int .i64 s.e)) := rfl
@[go_sem] theorem st_c5 (s : St) : (rowT i64C (stL s))[5]? = some (.v (.int .i64 s.f)) := rfl
@[go_sem] theorem st_c6 (s : St) : (rowT i64C (stL s))[6]? = some (.v (.int .i64 s.g)) := rfl
@[go_sem] theorem st_c7 (s : St) : (rowT i64C (stL s))[7]? = some (.v (.int .i64 s.h)) := rfl
@[go_sem] theorem expW_0 (b : List Int) : expW b 0 = [] := rfl
theorem expW_1 {b : List Int} {t : Nat} (h : t < 16) : expW b t ++ [wordL b t] = expW b (t + 1) := by rw [expW, if_pos h]
theorem expW_2 {b : List Int} {t : Nat} (h : ¬ t < 16) : expW b t ++ [nextW (expW b t) t] = expW b (t + 1) := by rw [expW, if_neg h]

theorem st_w {s : St} (h : StW s) : ∀ x ∈ stL s, Word x := by
  obtain ⟨h1, h2, h3, h4, h5, h6, h7, h8⟩ := h
  intro x hx
  simp only [stL, List.mem_cons, List.not_mem_nil, or_false] at hx
  rcases hx with rfl | rfl | rfl | rfl | rfl | rfl | rfl | rfl <;> assumption
theorem add_nth (s v : St) : ∀ i : Nat, i < 8 → (nth (stL s) i + nth (stL v) i) % 4294967296 = nth (stL (addS s v)) i
  | 0, _ => rfl
  | 1, _ => rfl
  | 2, _ => rfl
  | 3, _ => rfl
  | 4, _ => rfl
  | 5, _ => rfl
  | 6, _ => rfl
  | 7, _ => rfl
theorem step_cells (v : St) (k w : Int) : [.v (.int .i64 ((t1I v k w % 4294967296 + t2I v % 4294967296) % 4294967296)), .v (.int .i64 v.a), .v (.int .i64 v.b), .v (.int .i64 v.c), .v (.int .i64 ((v.d + t1I v k w % 4294967296) % 4294967296)), .v (.int .i64 v.e), .v (.int .i64 v.f), .v (.int .i64 v.g)] = rowT i64C (stL (stepS v k w)) := by
  rw [show (t1I v k w % 4294967296 + t2I v % 4294967296) % 4294967296 = (t1I v k w + t2I v) % 4294967296 by omega, show (v.d + t1I v k w % 4294967296) % 4294967296 = (v.d + t1I v k w) % 4294967296 by omega]
  rfl
theorem keys_w : ∀ x ∈ keysL, Word x := by unfold Word; decide

set_option maxHeartbeats 4000000 in
theorem spec_l2Block (k k2 : Nat) (s : St) (b : List Int) (hpre : (b.length = 64 ∧ Bytes b) ∧ StW s) : CallsT Try.prog [] F.spec_l2Block [.sl false k (stL s).length 1 (rowT i64C (stL s)), .sl false k2 b.length 1 (rowT u8C b)] (.sl false 0 (stL (blockS s b)).length 1 (rowT i64C (stL (blockS s b)))) [] := by
  refine fnT C.spec_l2Block ?_
  obtain ⟨⟨hb1, hb2⟩, hs⟩ := hpre
  have hk8 : (stL s).length = 8 := rfl
  refine run ?_
  refine r_for 16 (fun i => [(0, .sl false k (stL s).length 1 (rowT i64C (stL s))), (1, .sl false k2 b.length 1 (rowT u8C b)), (5, .ref 0 [] 0 (expW b i).length), (6, .v (.int .i64 i))]) (fun i => [⟨1, true, rowT i64C (expW b i)⟩]) (fun _ => True) [0] [] trivial Gc.of (fun i hi _ => ?_) (fun _ => ?_)
  · have h0 := hb2.nth (4 * i)
    have h1 := hb2.nth (4 * i + 1)
    have h2 := hb2.nth (4 * i + 2)
    have h3 := hb2.nth (4 * i + 3)
    have hl := expW_len b i
    refine run ?_
    rw [word_or h0 h1 h2 h3, show nth b (4 * (i : Int)) * 16777216 + nth b (4 * (i : Int) + 1) * 65536 + nth b (4 * (i : Int) + 2) * 256 + nth b (4 * (i : Int) + 3) = wordL b i from rfl, expW_1 hi]
    exact ⟨[2], [], Gc.of, trivial⟩
  refine run ?_
  refine r_for 48 (fun i => [(0, .sl false k (stL s).length 1 (rowT i64C (stL s))), (5, .ref 0 [] 0 (expW b (16 + i)).length), (7, .v (.int .i64 ((16 + i : Nat))))]) (fun i => [⟨1, true, rowT i64C (expW b (16 + i))⟩]) (fun _ => True) [0] [] trivial Gc.of (fun i hi _ => ?_) (fun _ => ?_)
  · have hw := nth_word (expW_word hb2 (16 + i))
    have h2 := hw (16 + i - 2)
    have h7 := hw (16 + i - 7)
    have h15 := hw (16 + i - 15)
    have h16 := hw (16 + i - 16)
    have hs0 := s0_b h15
    have hs1 := s1_b h2
    have hx0 := xor_b (turn_b (nth (expW b (16 + i)) (16 + i - 15)) 7) (turn_b (nth (expW b (16 + i)) (16 + i - 15)) 18)
    have hx1 := xor_b (turn_b (nth (expW b (16 + i)) (16 + i - 2)) 17) (turn_b (nth (expW b (16 + i)) (16 + i - 2)) 19)
    unfold Word at h2 h7 h15 h16
    simp only [Word, s0I, s1I] at hs0 hs1
    have hl := expW_len b (16 + i)
    have e := expW_2 (b := b) (t := 16 + i) (by omega)
    simp only [nextW, s0I, s1I, Int.natCast_add, Int.cast_ofNat_Int] at e
    refine run ?_
    rw [e, show (16 + (i : Int) + 1) = 16 + ((i : Int) + 1) by omega]
    exact ⟨[2], [], Gc.of, trivial⟩
  refine run ?_
  refine r_app (enc := i64C) [] (stL s) (by rw [hk8]; decide) ?_
  rw [List.nil_append]
  refine run ?_
  refine r_for 64 (fun i => [(0, .sl false k (stL s).length 1 (rowT i64C (stL s))), (5, .ref 0 [] 0 (expW b 64).length), (10, .sl false 0 keysL.length 1 (rowT i64C keysL)), (11, .ref 1 [] 0 (stL (roundS b s i)).length), (12, .v (.int .i64 i))]) (fun i => [⟨1, true, rowT i64C (expW b 64)⟩, ⟨1, true, rowT i64C (stL (roundS b s i))⟩]) (fun _ => True) [0, 2] [] trivial Gc.of (fun i hi _ => ?_) (fun _ => ?_)
  · have hv := round_w b hs i
    rw [show roundS b s (i + 1) = stepS (roundS b s i) (nth keysL i) (nth (expW b 64) i) from rfl]
    generalize roundS b s i = v at hv ⊢
    have hk8v : (stL v).length = 8 := rfl
    have hkl : keysL.length = 64 := rfl
    have hwl := expW_len b 64
    have hw := nth_word (expW_word hb2 64) i
    have hk := nth_word keys_w i
    obtain ⟨ha, hb, hc, hd, he, hf, hg, hh⟩ := hv
    have h1 := S1_b v.e
    have h0 := S0_b v.a
    have hch := ch_b he hf hg
    have hmj := maj_b ha hb hc
    simp only [Word, S1I, S0I, chI, majI] at ha hb hc hd he hf hg hh hw hk h1 h0 hch hmj
    have ec := step_cells v (nth keysL i) (nth (expW b 64) i)
    simp only [t1I, t2I, S1I, S0I, chI, majI] at ec
    have hk8s : (stL (stepS v (nth keysL i) (nth (expW b 64) i))).length = 8 := rfl
    refine run ?_
    rw [ec]
    exact ⟨[0, 2], [], Gc.of, trivial⟩
  have hv := round_w b hs 64
  rw [show blockS s b = addS s (roundS b s 64) from rfl]
  generalize roundS b s 64 = v at hv ⊢
  have hk8v : (stL v).length = 8 := rfl
  refine run ?_
  refine r_for 8 (fun i => [(0, .sl false k (stL s).length 1 (rowT i64C (stL s))), (11, .ref 0 [] 0 (stL v).length), (19, .ref 1 [] 0 ((stL (addS s v)).take i).length), (20, .v (.int .i64 i))]) (fun i => [⟨1, true, rowT i64C (stL v)⟩, ⟨1, true, rowT i64C ((stL (addS s v)).take i)⟩]) (fun _ => True) [1, 2] [] trivial Gc.of (fun i hi _ => ?_) (fun _ => ?_)
  · have h1 := nth_word (st_w hs) i
    have h2 := nth_word (st_w hv) i
    have h3 := add_nth s v i hi
    have h4 := take_nth (l := stL (addS s v)) (i := i) hi
    have h5 : ((stL (addS s v)).take i).length ≤ 8 := by rw [List.length_take]; show min i 8 ≤ 8; omega
    unfold Word at h1 h2
    refine run ?_
    rw [h3, ← h4]
    exact ⟨[0, 3], [], Gc.of, trivial⟩
  · refine run ?_
    rw [show List.take 8 (stL (addS s v)) = stL (addS s v) from rfl]
    exact r_end [] [1]
instance (k k2 : Nat) (s : St) (b : List Int) : Con Try.prog F.spec_l2Block [.sl false k (stL s).length 1 (rowT i64C (stL s)), .sl false k2 b.length 1 (rowT u8C b)] ((b.length = 64 ∧ Bytes b) ∧ StW s) (.sl false 0 (stL (blockS s b)).length 1 (rowT i64C (stL (blockS s b)))) [] := ⟨fun h => spec_l2Block k k2 s b h⟩

end Go.TL
