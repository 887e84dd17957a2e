/- SHA-256: the whole, the implementation. No conditions but those that are written. -/
import Derived.Test.YtdnclbghhdflmaaS7
namespace Go.TL
open Go.Proofs Go.RowKit
attribute [local irreducible] wpOpsT wpT EndT Ex.seq Ex.block W

@[go_sem ↓] theorem load_st (s : St) (r : Nat) (p : List Nat) : loadN (loadCell r p) (rowT i64C (stL s)) 0 8 = some (rowT i64C (stL s)) := rfl
@[go_sem ↓] theorem lend_ints (rt : Bool) (S : Store) (L : Nat) : ∀ l : List Int, lendTs rt S [] L (rowT i64C l) = some (rowT i64C l)
  | [] => rfl
  | x :: l => by
    rw [rowT_cons, show i64C x ++ rowT i64C l = T.v (.int .i64 x) :: rowT i64C l from rfl, lend_v, lend_ints rt S L l]; rfl
theorem cut_blk {l : List Int} (i : Nat) : cutL l (64 * (i : Int)) (64 * (i : Int) + 64) = (l.drop (64 * i)).take 64 := by
  unfold cutL
  rw [show (64 * (i : Int)).toNat = 64 * i by omega, show (64 * (i : Int) + 64).toNat - 64 * i = 64 by omega]
theorem and255 {x : Int} (h : 0 ≤ x ∧ x < 9223372036854775808) : and64 x 255 = x % 256 := and64_mask 8 (by decide) x h.1 (by omega) 255 rfl
attribute [local go_sem] Int.emod_emod and255

set_option maxHeartbeats 4000000 in
theorem impl_Sha (k : Nat) (l : List Int) (hpre : Bytes l ∧ l.length ≤ 140737488351232) : CallsT Try.prog [] F.impl_Sha [.sl false k l.length 1 (rowT u8C l)] (.sl false 0 (shaL l).length 1 (rowT u8C (shaL l))) [] := by
  refine fnT C.impl_Sha ?_
  obtain ⟨hb, hl⟩ := hpre
  refine run ?_
  refine r_ifd (fun h => ?_) (fun h => ?_)
  · rw [show shaL l = [] from if_pos h]
    refine run ?_
    exact r_end [] []
  rw [show shaL l = outL (shaS (padL l) ((padL l).length / 64)) 8 from if_neg h]
  refine run ?_
  refine r_app (enc := u8C) [] l (by simp only [List.length_nil]; omega) ?_
  rw [List.nil_append]
  refine run ?_
  have hz : zN l.length < 64 := by unfold zN; omega
  refine r_for (zN l.length) (fun i => [(0, .sl false k l.length 1 (rowT u8C l)), (3, .ref 0 [] 0 (zrow l i).length)]) (fun i => [⟨1, true, rowT u8C (zrow l i)⟩]) (fun _ => True) [3] [] trivial Gc.of (fun i hi _ => ?_) (fun _ => ?_)
  · have hs := zN_step hi
    have hzl := zrow_len l i
    refine run ?_
    exact ⟨[2], [], Gc.of, trivial⟩
  have hs := zN_end l.length
  have hzl := zrow_len l (zN l.length)
  refine run ?_
  refine r_for 8 (fun j => [(0, .sl false k l.length 1 (rowT u8C l)), (3, .ref 0 [] 0 (prow l j).length), (4, .v (.int .i64 (7 - (j : Int))))]) (fun j => [⟨1, true, rowT u8C (prow l j)⟩]) (fun _ => True) [0] [] trivial Gc.of (fun j hj _ => ?_) (fun _ => ?_)
  · have hpl := prow_len l j
    have hsh := sh_b l.length j (by omega)
    have e7 : 7 - (j : Int) - 1 = 7 - ((j + 1 : Nat) : Int) := by omega
    refine run ?_
    rw [e7]
    exact ⟨[2], [], Gc.of, trivial⟩
  have hp8 : prow l 8 = padL l := rfl
  rw [hp8]
  have hpl : (padL l).length = l.length + 1 + zN l.length + 8 := prow_len l 8
  have hp64 := padL_64 l
  have hpb := padL_b hb
  refine run ?_
  refine r_do0 (t := .dead) (S' := [⟨1, true, rowT u8C (padL l)⟩, ⟨0, true, rowT i64C (stL firstS)⟩]) ?_ (hs := by kernel_rfl)
  refine run ?_
  refine r_for ((padL l).length / 64) (fun i => [(3, .sl false 0 ((padL l).drop (64 * i)).length 1 (rowT u8C ((padL l).drop (64 * i)))), (5, .ptr 0 [] 0)]) (fun i => [⟨0, true, rowT i64C (stL (shaS (padL l) i))⟩]) (fun _ => True) [1] [0] trivial Gc.of (fun i hi _ => ?_) (fun _ => ?_)
  · have hw := shaS_w (padL l) i
    have hd : ((padL l).drop (64 * i)).length = (padL l).length - 64 * i := List.length_drop
    have hc : (((padL l).drop (64 * i)).take 64).length = 64 := by rw [List.length_take]; omega
    have hcb : Bytes (((padL l).drop (64 * i)).take 64) := fun x hx => hpb x (List.mem_of_mem_drop (List.mem_of_mem_take hx))
    have e1 : shaS (padL l) (i + 1) = blockS (shaS (padL l) i) (((padL l).drop (64 * i)).take 64) := by rw [← cut_blk]; rfl
    have e2 : ((padL l).drop (64 * i)).drop 64 = (padL l).drop (64 * (i + 1)) := by rw [List.drop_drop]; rfl
    generalize shaS (padL l) i = v at *
    rw [e1, ← e2]
    refine run ?_
    refine r_stl (l0 := stL v) (l := stL (blockS v (((padL l).drop (64 * i)).take 64))) ?_ (hl := by rfl) (h0 := by rfl)
    refine run ?_
    exact ⟨[0], [], Gc.of, trivial⟩
  have hw := shaS_w (padL l) ((padL l).length / 64)
  have hd : ((padL l).drop (64 * ((padL l).length / 64))).length = (padL l).length - 64 * ((padL l).length / 64) := List.length_drop
  generalize shaS (padL l) ((padL l).length / 64) = v at *
  refine run ?_
  refine r_for 8 (fun i => [(6, .ref 0 [] 0 (outL v i).length), (50, .agg (rowT i64C (stL v))), (51, .v (.int .i64 i))]) (fun i => [⟨1, true, rowT u8C (outL v i)⟩]) (fun _ => True) [1] [] trivial Gc.of (fun i hi _ => ?_) (fun _ => ?_)
  · have h1 := nth_word (st_w hw) i
    have hlv : (stL v).length = 8 := rfl
    have hol := outL_len v i
    unfold Word at h1
    have e24 : nth (stL v) (i : Nat) / 16777216 = nth (stL v) (i : Nat) / 16777216 % 256 := by omega
    refine run ?_
    refine r_app (enc := u8C) (outL v i) [nth (stL v) (i : Nat) / 16777216, nth (stL v) (i : Nat) / 65536 % 256, nth (stL v) (i : Nat) / 256 % 256, nth (stL v) (i : Nat) % 256] (by rw [hol]; show 4 * i + 4 ≤ _; omega) ?_ (hy := src_row (l := [nth (stL v) (i : Nat) / 16777216, nth (stL v) (i : Nat) / 65536 % 256, nth (stL v) (i : Nat) / 256 % 256, nth (stL v) (i : Nat) % 256]) rfl)
    refine run ?_
    rw [e24]
    exact ⟨[2], [], Gc.of, trivial⟩
  · refine run ?_
    exact r_end [] [0]
instance (k : Nat) (l : List Int) : Con Try.prog F.impl_Sha [.sl false k l.length 1 (rowT u8C l)] (Bytes l ∧ l.length ≤ 140737488351232) (.sl false 0 (shaL l).length 1 (rowT u8C (shaL l))) [] := ⟨fun h => impl_Sha k l h⟩

end Go.TL
