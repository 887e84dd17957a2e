/- SHA-256: the whole, both sides. No conditions but those that are written. -/
import Derived.Test.YtdnclbghhdflmaaS6
namespace Go.TL
open Go.Proofs Go.RowKit
attribute [local irreducible] wpOpsT wpT EndT Ex.seq Ex.block W

def zN (n : Nat) : Nat := (119 - n % 64) % 64
/-- The bytes, a one, i zeros. -/
def zrow (l : List Int) : Nat → List Int
  | 0 => l ++ [128]
  | i + 1 => zrow l i ++ [0]
/-- And the first j bytes of how many bits there are. -/
def prow (l : List Int) : Nat → List Int
  | 0 => zrow l (zN l.length)
  | j + 1 => prow l j ++ [8 * (l.length : Int) / 2 ^ (8 * (7 - (j : Int))).toNat % 256]
def padL (l : List Int) : List Int := prow l 8
theorem zrow_len (l : List Int) : ∀ i, (zrow l i).length = l.length + 1 + i
  | 0 => by simp [zrow]
  | i + 1 => by rw [zrow, List.length_append, zrow_len l i]; rfl
theorem prow_len (l : List Int) : ∀ j, (prow l j).length = l.length + 1 + zN l.length + j
  | 0 => zrow_len l _
  | j + 1 => by rw [prow, List.length_append, prow_len l j]; rfl
theorem padL_64 (l : List Int) : (padL l).length = 64 * ((padL l).length / 64) := by
  have : (padL l).length = l.length + 1 + zN l.length + 8 := prow_len l 8
  unfold zN at this; omega
theorem Bytes.app {a b : List Int} (ha : Bytes a) (hb : Bytes b) : Bytes (a ++ b) := fun x hx => by
  rcases List.mem_append.1 hx with h | h
  · exact ha x h
  · exact hb x h
theorem Bytes.one {y : Int} (h : 0 ≤ y ∧ y < 256) : Bytes [y] := fun x hx => by rw [List.mem_singleton.1 hx]; exact h
theorem zrow_b {l : List Int} (h : Bytes l) : ∀ i, Bytes (zrow l i)
  | 0 => h.app (Bytes.one (by decide))
  | i + 1 => (zrow_b h i).app (Bytes.one (by decide))
theorem prow_b {l : List Int} (h : Bytes l) : ∀ j, Bytes (prow l j)
  | 0 => zrow_b h _
  | j + 1 => (prow_b h j).app (Bytes.one (by omega))
theorem padL_b {l : List Int} (h : Bytes l) : Bytes (padL l) := prow_b h 8
def firstS : St := ⟨1779033703, 3144134277, 1013904242, 2773480762, 1359893119, 2600822924, 528734635, 1541459225⟩
theorem first_l : stL firstS = firstL := rfl
theorem first_w : StW firstS := by unfold StW Word firstS; decide
/-- The state behind i blocks. -/
def shaS (p : List Int) : Nat → St
  | 0 => firstS
  | i + 1 => blockS (shaS p i) (cutL p (64 * (i : Int)) (64 * (i : Int) + 64))
theorem shaS_w (p : List Int) : ∀ i, StW (shaS p i)
  | 0 => first_w
  | _ + 1 => block_w _ _
def outL (s : St) : Nat → List Int
  | 0 => []
  | i + 1 => outL s i ++ [nth (stL s) (i : Nat) / 16777216 % 256, nth (stL s) (i : Nat) / 65536 % 256, nth (stL s) (i : Nat) / 256 % 256, nth (stL s) (i : Nat) % 256]
theorem outL_len (s : St) : ∀ i, (outL s i).length = 4 * i
  | 0 => rfl
  | i + 1 => by rw [outL, List.length_append, outL_len s i]; rfl
def shaL (l : List Int) : List Int := if (l.length : Int) > 4000 then [] else outL (shaS (padL l) ((padL l).length / 64)) 8
theorem cut_b {l : List Int} (h : Bytes l) (lo hi : Int) : Bytes (cutL l lo hi) := fun x hx => h x (List.mem_of_mem_drop (List.mem_of_mem_take hx))
attribute [local go_sem] Int.emod_emod
theorem zN_step {n i : Nat} (h : i < zN n) : ¬ ((n : Int) + 1 + i) % 64 = 56 := by unfold zN at h; omega
theorem zN_end (n : Nat) : ((n : Int) + 1 + zN n) % 64 = 56 := by unfold zN; omega
theorem sh_b (n : Nat) (j : Nat) (h : n ≤ 4000) : 0 ≤ 8 * (n : Int) / 2 ^ (8 * (7 - (j : Int))).toNat ∧ 8 * (n : Int) / 2 ^ (8 * (7 - (j : Int))).toNat ≤ 32000 := by
  have h1 : 0 ≤ 8 * (n : Int) / 2 ^ (8 * (7 - (j : Int))).toNat := Int.ediv_nonneg (by omega) (Int.pow_nonneg (by decide))
  have h2 : 8 * (n : Int) / 2 ^ (8 * (7 - (j : Int))).toNat ≤ 8 * n := Int.ediv_le_self _ (by omega)
  omega

set_option maxHeartbeats 4000000 in
theorem spec_Sha (k : Nat) (l : List Int) (hpre : Bytes l ∧ l.length ≤ 140737488351232) : CallsT Try.prog [] F.spec_Sha [.sl false k l.length 1 (rowT u8C l)] (.sl false 0 (shaL l).length 1 (rowT u8C (shaL l))) [] := by
  refine fnT C.spec_Sha ?_
  obtain ⟨hb, hl⟩ := hpre
  refine run ?_
  refine r_ifd (fun h => ?_) (fun h => ?_)
  · rw [show shaL l = [] from if_pos h]
    refine run ?_
    exact r_end [] [0]
  rw [show shaL l = outL (shaS (padL l) ((padL l).length / 64)) 8 from if_neg h]
  refine run ?_
  refine r_app (enc := u8C) [] l (by simp only [List.length_nil]; omega) ?_
  rw [List.nil_append]
  have hz : zN l.length < 64 := by unfold zN; omega
  refine run ?_
  refine r_for (zN l.length) (fun i => [(0, .sl false k l.length 1 (rowT u8C l)), (3, .ref 0 [] 0 0), (4, .ref 1 [] 0 (zrow l i).length)]) (fun i => [⟨1, true, []⟩, ⟨1, true, rowT u8C (zrow l i)⟩]) (fun _ => True) [0, 4] [] trivial Gc.of (fun i hi _ => ?_) (fun _ => ?_)
  · have hs := zN_step hi
    have hzl := zrow_len l i
    refine run ?_
    exact ⟨[0, 3], [], Gc.of, trivial⟩
  have hs := zN_end l.length
  have hzl := zrow_len l (zN l.length)
  refine run ?_
  refine r_for 8 (fun j => [(0, .sl false k l.length 1 (rowT u8C l)), (3, .ref 0 [] 0 0), (4, .ref 1 [] 0 (prow l j).length), (5, .v (.int .i64 (7 - (j : Int))))]) (fun j => [⟨1, true, []⟩, ⟨1, true, rowT u8C (prow l j)⟩]) (fun _ => True) [0, 1] [] trivial Gc.of (fun j hj _ => ?_) (fun _ => ?_)
  · have hpl := prow_len l j
    have hsh := sh_b l.length j (by omega)
    have e7 : 7 - (j : Int) - 1 = 7 - ((j + 1 : Nat) : Int) := by omega
    refine run ?_
    rw [e7]
    exact ⟨[0, 3], [], Gc.of, trivial⟩
  have hp8 : prow l 8 = padL l := rfl
  rw [hp8]
  have hpl : (padL l).length = l.length + 1 + zN l.length + 8 := prow_len l 8
  have hp64 := padL_64 l
  have hpb := padL_b hb
  refine run ?_
  refine r_for ((padL l).length / 64) (fun i => [(3, .ref 0 [] 0 0), (4, .sl false 0 (padL l).length 1 (rowT u8C (padL l))), (6, .sl false 0 (stL (shaS (padL l) i)).length 1 (rowT i64C (stL (shaS (padL l) i)))), (7, .v (.int .i64 (64 * (i : Int))))]) (fun i => [⟨1, true, []⟩]) (fun _ => True) [0] [1, 2] trivial Gc.of (fun i hi _ => ?_) (fun _ => ?_)
  · have hw := shaS_w (padL l) i
    have hc := cutL_len (padL l) (lo := 64 * (i : Int)) (hi := 64 * (i : Int) + 64) (by omega)
    have hcb := cut_b hpb (64 * (i : Int)) (64 * (i : Int) + 64)
    have e1 : shaS (padL l) (i + 1) = blockS (shaS (padL l) i) (cutL (padL l) (64 * (i : Int)) (64 * (i : Int) + 64)) := rfl
    generalize shaS (padL l) i = v at *
    rw [e1]
    refine run ?_
    rw [show 64 * (i : Int) + 64 = 64 * ((i + 1 : Nat) : Int) by omega]
    exact ⟨[0], [], Gc.of, trivial⟩
  have hw := shaS_w (padL l) ((padL l).length / 64)
  have hlast : ¬ 64 * (((padL l).length / 64 : Nat) : Int) < (padL l).length := by omega
  generalize shaS (padL l) ((padL l).length / 64) = v at *
  refine run ?_
  refine r_for 8 (fun i => [(3, .ref 0 [] 0 (outL v i).length), (6, .sl false 0 (stL v).length 1 (rowT i64C (stL v))), (8, .v (.int .i64 i))]) (fun i => [⟨1, true, rowT u8C (outL v i)⟩]) (fun _ => True) [0] [] trivial Gc.of (fun i hi _ => ?_) (fun _ => ?_)
  · have h1 := nth_word (st_w hw) i
    have hlv : (stL v).length = 8 := rfl
    have hol := outL_len v i
    unfold Word at h1
    have e24 : nth (stL v) (i : Nat) / 16777216 = nth (stL v) (i : Nat) / 16777216 % 256 := by omega
    refine run ?_
    refine r_app (enc := u8C) (outL v i) [nth (stL v) (i : Nat) / 16777216, nth (stL v) (i : Nat) / 65536 % 256, nth (stL v) (i : Nat) / 256 % 256, nth (stL v) (i : Nat) % 256] (by rw [hol]; show 4 * i + 4 ≤ _; omega) ?_ (hy := src_row (l := [nth (stL v) (i : Nat) / 16777216, nth (stL v) (i : Nat) / 65536 % 256, nth (stL v) (i : Nat) / 256 % 256, nth (stL v) (i : Nat) % 256]) rfl)
    refine run ?_
    rw [e24]
    exact ⟨[2], [], Gc.of, trivial⟩
  · refine run ?_
    exact r_end [] [0]
instance (k : Nat) (l : List Int) : Con Try.prog F.spec_Sha [.sl false k l.length 1 (rowT u8C l)] (Bytes l ∧ l.length ≤ 140737488351232) (.sl false 0 (shaL l).length 1 (rowT u8C (shaL l))) [] := ⟨fun h => spec_Sha k l h⟩

end Go.TL
