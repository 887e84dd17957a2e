/- Texts joined. No conditions but those that are written. -/
import Derived.Test.YtneiifghegdfgaaJP2P3
import Derived.Test.YtneiifghegdfgaaJE2G14
/- The law of HeldPut on trees. No conditions but those that are written. -/
namespace Go.TL
set_option linter.unusedSimpArgs false
open Go.Proofs Go.RowKit
attribute [local irreducible] wpOpsT wpT EndT Ex.seq Ex.block W

theorem sum_setE {α : Type} [Inhabited α] (f : α → Int) (l : List α) (n : Nat) (x : α) (h : n < l.length) (hf : f x = f (nth l (n : Nat))) : sumI f (l.set n x) = sumI f l := by
  have e : sumI f l = sumI f (l.take n) + sumI f (nth l (n : Nat) :: l.drop (n + 1)) := by
    conv => lhs; rw [← List.take_append_drop n l, List.drop_eq_getElem_cons h, sum_app]
    rw [nth_nat h]
  rw [List.set_eq_take_append_cons_drop, if_pos h, sum_app, e]
  simp only [sumI, List.map_cons, List.sum_cons, hf]

theorem putP_ok {sz : Int} {d : ByteArray} {l : List ByteArray} {i : Int} {s : ByteArray} (h : (putP sz d l i s).2 = 0) : (putP sz d l i s).1 = ⟨sz, d, l.set i.toNat s⟩ := by
  unfold putP at h ⊢
  split at h
  · rename_i h1
    rw [if_pos h1]
    split at h
    · cases h
    · rename_i h2
      rw [if_neg h2]
      split at h
      · cases h
      · rename_i h3
        rw [if_neg h3]
  · cases h

theorem bnd_putH {l : List HeldV} {r i : Int} {s : ByteArray} (hb : bndHS l) (hs : s.size ≤ 1048576) : bndHS (putH l r i s).1 ∧ costHS (putH l r i s).1 = costHS l := by
  have hfb := find_b l r
  unfold putH
  split
  · exact ⟨hb, rfl⟩
  rename_i h1
  generalize findH l r = fi at *
  obtain ⟨n, rfl⟩ := Int.eq_ofNat_of_zero_le (show 0 ≤ fi by omega)
  have hn : n < l.length := by omega
  have hx : bndP (nth l (n : Nat)).dig (nth l (n : Nat)).parts := hb.2 _ (nth_mem hn)
  split
  · rename_i h2
    rw [putP_ok h2, Int.toNat_natCast]
    refine ⟨⟨by rw [List.length_set]; exact hb.1, fun h hm => ?_⟩, sum_setE costH l n _ hn ?_⟩
    · rcases List.mem_or_eq_of_mem_set hm with hm | rfl
      · exact hb.2 _ hm
      · refine ⟨hx.1, by rw [List.length_set]; exact hx.2.1, fun t ht => ?_⟩
        rcases List.mem_or_eq_of_mem_set ht with ht | rfl
        · exact hx.2.2 _ ht
        · omega
    · simp only [costH, List.length_set]
  · exact ⟨hb, rfl⟩

theorem eqHeldS0 : CallsT Try.prog [] F.laws_eqHeldS [.sl false 1 0 4 [], .sl false 1 0 4 []] (.v (.bool true)) [] := laws_eqHeldS 1 1 [] ⟨by simp, fun _ h => by cases h⟩
theorem heldHeldS0 : CallsT Try.prog [] F.laws_heldHeldS [.sl false 1 0 4 [], .v (.int .i64 1)] (.v (.int .i64 1)) [] := laws_heldHeldS 1 1 [] ⟨by decide, by decide⟩
theorem markHeldS0 : CallsT Try.prog [] F.laws_markHeldS [.sl false 1 0 4 [], .v (.int .i64 1)] (.v (.int .i64 1)) [] := by
  refine fnT C.laws_markHeldS ?_
  refine run ?_
  refine r_for 0 (fun i => [(0, .sl false 1 0 4 []), (1, .v (.int .i64 1)), (5, .v (.int .i64 i))]) (fun _ => []) (fun _ => True) [] [] trivial Gc.of (fun i hi _ => absurd hi (Nat.not_lt_zero _)) (fun _ => ?_)
  refine run ?_
  exact r_end [] []

end Go.TL

/- What is drawn of lists of helds: that there is a list and a place of the cursor, whatever the bytes. No conditions but those that are written. -/
namespace Go.TL
set_option linter.unusedSimpArgs false
open Go.Proofs Go.RowKit
attribute [local irreducible] wpOpsT wpT EndT Ex.seq Ex.block W

theorem strL_b (s : ByteArray) : Bytes (strL s) := fun x hx => by
  unfold strL at hx
  obtain ⟨b, _, rfl⟩ := List.mem_map.1 hx
  have := b.toNat_lt
  omega
theorem sum_bnd {α : Type} {f : α → Int} {K : Int} : ∀ l : List α, (∀ x ∈ l, f x ≤ K) → sumI f l ≤ K * l.length
  | [], _ => by simp [sumI]
  | x :: l, h => by
    have h1 := h x (.head _)
    have h2 := sum_bnd l fun y hy => h y (.tail _ hy)
    rw [show sumI f (x :: l) = f x + sumI f l by simp [sumI], List.length_cons, Int.natCast_add, Int.mul_add]
    omega
/-- A held, a list of helds, not too large. -/
def capV (h : HeldV) : Prop := h.dig.size ≤ 40 ∧ h.parts.length ≤ 70 ∧ ∀ t ∈ h.parts, t.size ≤ 40
def capH (l : List HeldV) : Prop := l.length ≤ 10 ∧ ∀ h ∈ l, capV h
theorem capH_nil : capH [] := ⟨Nat.zero_le _, fun h hh => by cases hh⟩
theorem capV_tot {h : HeldV} (hc : capV h) : totH h ≤ 3000 := by
  obtain ⟨h1, h2, h3⟩ := hc
  have := sum_bnd (f := szS) (K := 40) h.parts fun t ht => by have := h3 t ht; unfold szS; omega
  unfold totH totP totS
  omega
theorem capH_tot {l : List HeldV} (hc : capH l) : bndHS l ∧ totHS l ≤ 1048576 := by
  obtain ⟨h1, h2⟩ := hc
  have := sum_bnd (f := totH) (K := 3000) l fun x hx => capV_tot (h2 x hx)
  refine ⟨⟨by omega, fun h hh => ?_⟩, by unfold totHS; omega⟩
  obtain ⟨a, b, c⟩ := h2 h hh
  exact ⟨by omega, by omega, fun s hs => by have := c s hs; omega⟩
theorem capV_new {r sz : Int} {d : ByteArray} (hd : d.size ≤ 40) : capV (newV r sz d) := by
  have := partsN_b sz
  unfold newV newP
  split
  · refine ⟨hd, by dsimp only; rw [List.length_replicate]; omega, fun t ht => ?_⟩
    rw [(List.mem_replicate.1 ht).2]
    decide
  · exact ⟨by show (⟨#[]⟩ : ByteArray).size ≤ 40; decide, Nat.zero_le _, fun t ht => by cases ht⟩
theorem capH_new {l : List HeldV} {r sz : Int} {d : ByteArray} (hc : capH l) (hd : d.size ≤ 40) : capH (newH l r sz d).1 := by
  unfold newH
  split
  · exact capH_nil
  rename_i h
  split
  · exact hc
  have h8 := (Decidable.not_not.1 h).1
  have hl := newL_len (newV r sz d) l
  refine ⟨by dsimp only; omega, fun x hx => ?_⟩
  rcases newL_mem _ hx with rfl | hx
  · exact capV_new hd
  · exact hc.2 x hx
theorem capH_put {l : List HeldV} {r i : Int} {s : ByteArray} (hc : capH l) (hs : s.size ≤ 40) : capH (putH l r i s).1 := by
  have hfb := find_b l r
  unfold putH
  split
  · exact hc
  rename_i h1
  generalize findH l r = fi at *
  obtain ⟨n, rfl⟩ := Int.eq_ofNat_of_zero_le (show 0 ≤ fi by omega)
  have hn : n < l.length := by omega
  have hx : capV (nth l (n : Nat)) := hc.2 _ (nth_mem hn)
  split
  · rename_i h2
    rw [putP_ok h2, Int.toNat_natCast]
    refine ⟨by rw [List.length_set]; exact hc.1, fun h hm => ?_⟩
    rcases List.mem_or_eq_of_mem_set hm with hm | rfl
    · exact hc.2 _ hm
    · refine ⟨hx.1, by rw [List.length_set]; exact hx.2.1, fun t ht => ?_⟩
      rcases List.mem_or_eq_of_mem_set ht with ht | rfl
      · exact hx.2.2 _ ht
      · exact hs
  · exact hc

/-- Putting a part, whatever the list is. -/
def putE (l : List HeldV) (r i : Int) (s : ByteArray) : List HeldV × Int := if heldsP l then putH l r i s else ([], 1)
theorem capH_putE {l : List HeldV} {r i : Int} {s : ByteArray} (hc : capH l) (hs : s.size ≤ 40) : capH (putE l r i s).1 := by
  unfold putE
  split
  · exact capH_put hc hs
  · exact capH_nil
theorem spec_HeldPutE (l : List HeldV) (r i : Int) (s : ByteArray) (hb : bndHS l) (hpre : totHS l ≤ 1048576) : CallsT Try.prog [] F.spec_HeldPut [.sl false 1 l.length 4 (rowT heldC l), .v (.int .i64 r), .v (.int .i64 i), .v (.string s)] (.tup [.ref 0 [] 0 (putE l r i s).1.length, .v (.int .i64 ((putE l r i s).2))]) [⟨4, true, rowT heldO (putE l r i s).1⟩] := by
  by_cases hok : heldsP l
  · rw [show putE l r i s = putH l r i s from if_pos hok]
    exact spec_HeldPutO l r i s hb hpre hok
  · rw [show putE l r i s = ([], 1) from if_neg hok]
    refine fnT C.spec_HeldPut ?_
    refine run ?_
    exact r_end [0] []

/-- A part of a text. -/
def partS (s : ByteArray) (k : Nat) : ByteArray := s.extract ((k : Int) * 16).toNat (min (((k : Int) + 1) * 16) s.size).toNat
theorem partS_size (s : ByteArray) (k : Nat) : (partS s k).size ≤ 16 := by
  unfold partS
  rw [ByteArray.size_extract]
  omega
set_option maxHeartbeats 4000000 in
theorem spec_PartOf (s : ByteArray) (k : Nat) (hpre : s.size ≤ 1000 ∧ (k : Int) < partsN s.size) : CallsT Try.prog [] F.spec_PartOf [.v (.string s), .v (.int .i64 k)] (.tup [.v (.string (partS s k)), .v (.bool true)]) [] := by
  refine fnT C.spec_PartOf ?_
  obtain ⟨h1, h2⟩ := hpre
  have hpN : partsN s.size = ((s.size : Int) + 15) / 16 := if_pos (by omega)
  refine run ?_
  exact r_end [] []
instance (s : ByteArray) (k : Nat) : Con Try.prog F.spec_PartOf [.v (.string s), .v (.int .i64 k)] (s.size ≤ 1000 ∧ (k : Int) < partsN s.size) (.tup [.v (.string (partS s k)), .v (.bool true)]) [] := ⟨fun h => spec_PartOf s k h⟩

/-- The loop over a text's parts, the loop over texts. -/
def pinF (e : Int × Int → Bool × (Int × Int)) (s : ByteArray) (r : Int) (z : (Int × Int) × List HeldV) : Nat → (Int × Int) × List HeldV
  | 0 => z
  | k + 1 => ((e (pinF e s r z k).1).2, if (e (pinF e s r z k).1).1 = true then (pinF e s r z k).2 else (putE (pinF e s r z k).2 r k (partS s k)).1)
theorem pinF_ok {l : List Int} {e : Int × Int → Bool × (Int × Int)} (he : ∀ c, curP l c.1 → curP l (e c).2.1) {s : ByteArray} {r : Int} {z : (Int × Int) × List HeldV} (hz : curP l z.1.1 ∧ capH z.2) : ∀ k, curP l (pinF e s r z k).1.1 ∧ capH (pinF e s r z k).2
  | 0 => hz
  | k + 1 => by
    obtain ⟨h1, h2⟩ := pinF_ok he hz k
    refine ⟨he _ h1, ?_⟩
    rw [pinF]
    dsimp only
    split
    · exact h2
    · exact capH_putE h2 (by have := partS_size s k; omega)
def pouF (t : Int × Int → ByteArray × (Int × Int)) (b : Int × Int → Int × (Int × Int)) (e : Int × Int → Bool × (Int × Int)) (c0 : Int × Int) : Nat → (Int × Int) × List HeldV
  | 0 => (c0, [])
  | i + 1 => pinF e (t (pouF t b e c0 i).1).1 (1 + (b (t (pouF t b e c0 i).1).2).1 + i) ((b (t (pouF t b e c0 i).1).2).2, (newH (pouF t b e c0 i).2 (1 + (b (t (pouF t b e c0 i).1).2).1 + i) (t (pouF t b e c0 i).1).1.size (strOfT (shaL (strL (t (pouF t b e c0 i).1).1)))).1) (partsN (t (pouF t b e c0 i).1).1.size).toNat
theorem sha_size (s : ByteArray) : (strOfT (shaL (strL s))).size ≤ 40 := by
  rw [strOf_size]
  unfold shaL
  split
  · exact Nat.zero_le _
  · rw [outL_len]; omega
theorem pouF_ok {l : List Int} {t : Int × Int → ByteArray × (Int × Int)} {b : Int × Int → Int × (Int × Int)} {e : Int × Int → Bool × (Int × Int)} (ht : ∀ c, curP l c.1 → curP l (t c).2.1) (hb : ∀ c, curP l c.1 → curP l (b c).2.1) (he : ∀ c, curP l c.1 → curP l (e c).2.1) {c0 : Int × Int} (hc : curP l c0.1) : ∀ i, curP l (pouF t b e c0 i).1.1 ∧ capH (pouF t b e c0 i).2
  | 0 => ⟨hc, capH_nil⟩
  | i + 1 => by
    obtain ⟨h1, h2⟩ := pouF_ok ht hb he hc i
    exact pinF_ok he ⟨hb _ (ht _ h1), capH_new h2 (sha_size _)⟩ _

set_option linter.unusedSimpArgs false in
set_option maxHeartbeats 8000000 in
theorem right14_ex (l : List Int) (c : Int × Int) (hc : curP l c.1) : ∃ (o : List HeldV) (c' : Int × Int), capH o ∧ curP l c'.1 ∧ CallsT Try.prog [⟨0, true, [.sl false 0 l.length 1 (rowT u8C l), .v (.int .i64 c.1), .v (.int .i64 c.2)]⟩] F.spec_l14DrawRight [.ptr 0 [] 0] (.ref 1 [] 0 o.length) [⟨0, true, [.sl false 0 l.length 1 (rowT u8C l), .v (.int .i64 (c'.1)), .v (.int .i64 (c'.2))]⟩, ⟨4, true, rowT heldO o⟩] := by
  obtain ⟨n0, c1, hn0, hc1, h1⟩ := below_ex l c 4 hc (by omega)
  obtain ⟨v, c2, hc2, h2⟩ := once_ex l c1 20 hc1 (by omega)
  obtain ⟨t, ht⟩ := Classical.axiomOfChoice (r := fun (c : Int × Int) (z : ByteArray × (Int × Int)) => curP l c.1 → z.1.size ≤ 40 ∧ curP l z.2.1 ∧ CallsT Try.prog [⟨0, true, [.sl false 0 l.length 1 (rowT u8C l), .v (.int .i64 c.1), .v (.int .i64 c.2)]⟩] F.spec_l14DrawText [.ptr 0 [] 0] (.v (.string z.1)) [⟨0, true, [.sl false 0 l.length 1 (rowT u8C l), .v (.int .i64 z.2.1), .v (.int .i64 z.2.2)]⟩]) (fun c => by
    by_cases h : curP l c.1
    · obtain ⟨v, c', k1, k2, k3⟩ := text14_ex l c h
      exact ⟨(v, c'), fun _ => ⟨k1, k2, k3⟩⟩
    · exact ⟨(⟨#[]⟩, (0, 0)), fun h1 => absurd h1 h⟩)
  obtain ⟨b, hb⟩ := Classical.axiomOfChoice (r := fun (c : Int × Int) (z : Int × (Int × Int)) => curP l c.1 → (0 ≤ z.1 ∧ z.1 < 5) ∧ curP l z.2.1 ∧ CallsT Try.prog [⟨0, true, [.sl false 0 l.length 1 (rowT u8C l), .v (.int .i64 c.1), .v (.int .i64 c.2)]⟩] F.spec_l1Below [.ptr 0 [] 0, .v (.int .i64 5)] (.v (.int .i64 z.1)) [⟨0, true, [.sl false 0 l.length 1 (rowT u8C l), .v (.int .i64 z.2.1), .v (.int .i64 z.2.2)]⟩]) (fun c => by
    by_cases h : curP l c.1
    · obtain ⟨v, c', k1, k2, k3⟩ := below_ex l c 5 h (by omega)
      exact ⟨(v, c'), fun _ => ⟨k1, k2, k3⟩⟩
    · exact ⟨(0, (0, 0)), fun h1 => absurd h1 h⟩)
  obtain ⟨e, he⟩ := Classical.axiomOfChoice (r := fun (c : Int × Int) (z : Bool × (Int × Int)) => curP l c.1 → curP l z.2.1 ∧ CallsT Try.prog [⟨0, true, [.sl false 0 l.length 1 (rowT u8C l), .v (.int .i64 c.1), .v (.int .i64 c.2)]⟩] F.spec_l1Once [.ptr 0 [] 0, .v (.int .i64 5)] (.v (.bool z.1)) [⟨0, true, [.sl false 0 l.length 1 (rowT u8C l), .v (.int .i64 z.2.1), .v (.int .i64 z.2.2)]⟩]) (fun c => by
    by_cases h : curP l c.1
    · obtain ⟨v, c', k1, k2⟩ := once_ex l c 5 h (by omega)
      exact ⟨(v, c'), fun _ => ⟨k1, k2⟩⟩
    · exact ⟨(true, (0, 0)), fun h1 => absurd h1 h⟩)
  have ok := pouF_ok (l := l) (t := t) (b := b) (e := e) (fun c h => (ht c h).2.1) (fun c h => (hb c h).2.1) (fun c h => (he c h).1) hc2
  obtain ⟨m, hm, hmv⟩ : ∃ m : Nat, m ≤ 8 ∧ (m : Int) = if v = true then 8 else n0 := by
    cases v with
    | true => exact ⟨8, by omega, rfl⟩
    | false => exact ⟨n0.toNat, by omega, by rw [if_neg Bool.false_ne_true]; omega⟩
  refine ⟨(pouF t b e c2 m).2, (pouF t b e c2 m).1, (ok m).2, (ok m).1, ?_⟩
  refine fnT C.spec_l14DrawRight ?_
  refine runC ?_
  refine r_call1p 0 h1 ?_
  refine runC ?_
  refine r_call1p 0 h2 ?_
  cases v with
  | true =>
    rw [if_pos rfl] at hmv
    refine run ?_
    refine r_for m (fun i => [(0, .ptr 0 [] 0), (3, .ref 1 [] 0 (pouF t b e c2 i).2.length), (4, .v (.int .i64 m)), (5, .v (.int .i64 i))]) (fun i => [⟨0, true, [.sl false 0 l.length 1 (rowT u8C l), .v (.int .i64 ((pouF t b e c2 i).1.1)), .v (.int .i64 ((pouF t b e c2 i).1.2))]⟩, ⟨4, true, rowT heldO (pouF t b e c2 i).2⟩]) (fun _ => True) [0, 1] [] trivial Gc.of (fun i hi _ => ?_) (fun _ => ?_)
    · obtain ⟨k1, k2⟩ := ok i
      rw [pouF]
      generalize pouF t b e c2 i = s at *
      obtain ⟨ht1, ht2, ht3⟩ := ht _ k1
      generalize t s.1 = T0 at *
      obtain ⟨hb1, hb2, hb3⟩ := hb _ ht2
      generalize b T0.2 = B0 at *
      have hsz : ((strOfT (shaL (strL T0.1))).size : Int) = 32 := by rw [strOf_size, shaL, if_neg (by rw [strL_length]; omega), outL_len]; rfl
      have hnew := spec_HeldNewO s.2 (1 + B0.1 + i) T0.1.size (strOfT (shaL (strL T0.1))) (capH_tot k2).1 (capH_tot k2).2
      have hcn := capH_new (r := 1 + B0.1 + i) (sz := T0.1.size) k2 (sha_size T0.1)
      generalize newH s.2 (1 + B0.1 + i) T0.1.size (strOfT (shaL (strL T0.1))) = N0 at *
      have hsha := spec_Sha 1 (strL T0.1) ⟨strL_b _, by rw [strL_length]; omega⟩
      refine runC ?_
      refine r_call1p 0 ht3 ?_
      refine runC ?_
      refine r_call1p 0 hb3 ?_
      refine runC ?_
      refine r_callp true hsha ?_
      refine runC ?_
      refine r_callp true hnew ?_
      refine run ?_
      have hpn := partsN_b T0.1.size
      have hpp : 0 ≤ partsN T0.1.size := by unfold partsN; rw [if_pos (by omega)]; omega
      have oki := pinF_ok (l := l) (e := e) (fun c h => (he c h).1) (s := T0.1) (r := 1 + B0.1 + i) (z := (B0.2, N0.1)) ⟨hb2, hcn⟩
      refine r_for (partsN T0.1.size).toNat (fun k => [(0, .ptr 0 [] 0), (3, .ref 1 [] 0 (pinF e T0.1 (1 + B0.1 + i) (B0.2, N0.1) k).2.length), (4, .v (.int .i64 m)), (5, .v (.int .i64 i)), (6, .v (.string T0.1)), (7, .v (.int .i64 (1 + B0.1 + i))), (8, .v (.int .i64 k))]) (fun k => [⟨0, true, [.sl false 0 l.length 1 (rowT u8C l), .v (.int .i64 ((pinF e T0.1 (1 + B0.1 + i) (B0.2, N0.1) k).1.1)), .v (.int .i64 ((pinF e T0.1 (1 + B0.1 + i) (B0.2, N0.1) k).1.2))]⟩, ⟨4, true, rowT heldO (pinF e T0.1 (1 + B0.1 + i) (B0.2, N0.1) k).2⟩]) (fun _ => True) [0, 3] [] trivial Gc.of (fun k hk _ => ?_) (fun _ => ?_)
      · obtain ⟨j1, j2⟩ := oki k
        rw [pinF]
        generalize pinF e T0.1 (1 + B0.1 + i) (B0.2, N0.1) k = z at *
        obtain ⟨he1, he2⟩ := he _ j1
        generalize e z.1 = E0 at *
        have hpo := spec_PartOf T0.1 k ⟨by omega, by omega⟩
        have hput := spec_HeldPutE z.2 (1 + B0.1 + i) k (partS T0.1 k) (capH_tot j2).1 (capH_tot j2).2
        obtain ⟨v0, c0⟩ := E0
        dsimp only at he1 he2 ⊢
        refine run ?_
        refine r_call1p 0 he2 ?_
        cases v0 with
        | true =>
          rw [if_pos rfl]
          refine run ?_
          exact ⟨[0, 1], [], Gc.of, trivial⟩
        | false =>
          rw [if_neg Bool.false_ne_true]
          refine runC ?_
          refine r_callp true hput ?_
          refine run ?_
          exact ⟨[0, 2], [], Gc.of, trivial⟩
      · refine run ?_
        exact ⟨[0, 1], [], Gc.of, trivial⟩
    · refine run ?_
      exact r_end [0, 1] []
  | false =>
    rw [if_neg Bool.false_ne_true] at hmv
    refine run ?_
    rw [← hmv]
    refine r_for m (fun i => [(0, .ptr 0 [] 0), (3, .ref 1 [] 0 (pouF t b e c2 i).2.length), (4, .v (.int .i64 m)), (5, .v (.int .i64 i))]) (fun i => [⟨0, true, [.sl false 0 l.length 1 (rowT u8C l), .v (.int .i64 ((pouF t b e c2 i).1.1)), .v (.int .i64 ((pouF t b e c2 i).1.2))]⟩, ⟨4, true, rowT heldO (pouF t b e c2 i).2⟩]) (fun _ => True) [0, 1] [] trivial Gc.of (fun i hi _ => ?_) (fun _ => ?_)
    · obtain ⟨k1, k2⟩ := ok i
      rw [pouF]
      generalize pouF t b e c2 i = s at *
      obtain ⟨ht1, ht2, ht3⟩ := ht _ k1
      generalize t s.1 = T0 at *
      obtain ⟨hb1, hb2, hb3⟩ := hb _ ht2
      generalize b T0.2 = B0 at *
      have hsz : ((strOfT (shaL (strL T0.1))).size : Int) = 32 := by rw [strOf_size, shaL, if_neg (by rw [strL_length]; omega), outL_len]; rfl
      have hnew := spec_HeldNewO s.2 (1 + B0.1 + i) T0.1.size (strOfT (shaL (strL T0.1))) (capH_tot k2).1 (capH_tot k2).2
      have hcn := capH_new (r := 1 + B0.1 + i) (sz := T0.1.size) k2 (sha_size T0.1)
      generalize newH s.2 (1 + B0.1 + i) T0.1.size (strOfT (shaL (strL T0.1))) = N0 at *
      have hsha := spec_Sha 1 (strL T0.1) ⟨strL_b _, by rw [strL_length]; omega⟩
      refine runC ?_
      refine r_call1p 0 ht3 ?_
      refine runC ?_
      refine r_call1p 0 hb3 ?_
      refine runC ?_
      refine r_callp true hsha ?_
      refine runC ?_
      refine r_callp true hnew ?_
      refine run ?_
      have hpn := partsN_b T0.1.size
      have hpp : 0 ≤ partsN T0.1.size := by unfold partsN; rw [if_pos (by omega)]; omega
      have oki := pinF_ok (l := l) (e := e) (fun c h => (he c h).1) (s := T0.1) (r := 1 + B0.1 + i) (z := (B0.2, N0.1)) ⟨hb2, hcn⟩
      refine r_for (partsN T0.1.size).toNat (fun k => [(0, .ptr 0 [] 0), (3, .ref 1 [] 0 (pinF e T0.1 (1 + B0.1 + i) (B0.2, N0.1) k).2.length), (4, .v (.int .i64 m)), (5, .v (.int .i64 i)), (6, .v (.string T0.1)), (7, .v (.int .i64 (1 + B0.1 + i))), (8, .v (.int .i64 k))]) (fun k => [⟨0, true, [.sl false 0 l.length 1 (rowT u8C l), .v (.int .i64 ((pinF e T0.1 (1 + B0.1 + i) (B0.2, N0.1) k).1.1)), .v (.int .i64 ((pinF e T0.1 (1 + B0.1 + i) (B0.2, N0.1) k).1.2))]⟩, ⟨4, true, rowT heldO (pinF e T0.1 (1 + B0.1 + i) (B0.2, N0.1) k).2⟩]) (fun _ => True) [0, 3] [] trivial Gc.of (fun k hk _ => ?_) (fun _ => ?_)
      · obtain ⟨j1, j2⟩ := oki k
        rw [pinF]
        generalize pinF e T0.1 (1 + B0.1 + i) (B0.2, N0.1) k = z at *
        obtain ⟨he1, he2⟩ := he _ j1
        generalize e z.1 = E0 at *
        have hpo := spec_PartOf T0.1 k ⟨by omega, by omega⟩
        have hput := spec_HeldPutE z.2 (1 + B0.1 + i) k (partS T0.1 k) (capH_tot j2).1 (capH_tot j2).2
        obtain ⟨v0, c0⟩ := E0
        dsimp only at he1 he2 ⊢
        refine run ?_
        refine r_call1p 0 he2 ?_
        cases v0 with
        | true =>
          rw [if_pos rfl]
          refine run ?_
          exact ⟨[0, 1], [], Gc.of, trivial⟩
        | false =>
          rw [if_neg Bool.false_ne_true]
          refine runC ?_
          refine r_callp true hput ?_
          refine run ?_
          exact ⟨[0, 2], [], Gc.of, trivial⟩
      · refine run ?_
        exact ⟨[0, 1], [], Gc.of, trivial⟩
    · refine run ?_
      exact r_end [0, 1] []

end Go.TL

/- What is drawn for HeldPut: that there is a list, a release, a part, whatever the bytes. No conditions but those that are written. -/
namespace Go.TL
set_option linter.unusedSimpArgs false
open Go.Proofs Go.RowKit
attribute [local irreducible] wpOpsT wpT EndT Ex.seq Ex.block W

def capJ (l : List HeldV) : Prop := l.length ≤ 11 ∧ ∀ h ∈ l, capV h
theorem capJ_tot {l : List HeldV} (hc : capJ l) : bndHS l ∧ totHS l ≤ 1048576 := by
  obtain ⟨h1, h2⟩ := hc
  have := sum_bnd (f := totH) (K := 3000) l fun x hx => capV_tot (h2 x hx)
  refine ⟨⟨by omega, fun h hh => ?_⟩, by unfold totHS; omega⟩
  obtain ⟨a, b, c⟩ := h2 h hh
  exact ⟨by omega, by omega, fun s hs => by have := c s hs; omega⟩
theorem capJ_of {l : List HeldV} (h : capH l) : capJ l := ⟨by have := h.1; omega, h.2⟩
theorem wks_pre (a : List T) {b c : List T} (h : Wks b c) : Wks (a ++ b) (a ++ c) := by
  induction a with
  | nil => exact h
  | cons x a ih => exact .cons (.refl _) ih
theorem wk_nilS : Wk (.v (.slice none 0 0)) (ownC 0 1 []) := by rw [ownC_nil]; exact .nil _ _
/-- A held of which nothing is there. -/
def noneH (r : Int) : HeldV := ⟨r, 0, ⟨#[]⟩, []⟩

set_option linter.unusedSimpArgs false in
set_option maxHeartbeats 8000000 in
theorem helds14_ex (l : List Int) (c : Int × Int) (hc : curP l c.1) : ∃ (o : List HeldV) (c' : Int × Int), capJ o ∧ curP l c'.1 ∧ CallsT Try.prog [⟨0, true, [.sl false 0 l.length 1 (rowT u8C l), .v (.int .i64 c.1), .v (.int .i64 c.2)]⟩] F.spec_l14DrawHelds [.ptr 0 [] 0] (.ref 1 [] 0 o.length) [⟨0, true, [.sl false 0 l.length 1 (rowT u8C l), .v (.int .i64 (c'.1)), .v (.int .i64 (c'.2))]⟩, ⟨4, true, rowT heldO o⟩] := by
  obtain ⟨o, c1, ho, hc1, h1⟩ := right14_ex l c hc
  obtain ⟨v, c2, hv, hc2, h2⟩ := below_ex l c1 20 hc1 (by omega)
  have hol := ho.1
  by_cases v0 : v = 0
  · subst v0
    obtain ⟨w, c3, hw, hc3, h3⟩ := below_ex l c2 3 hc2 (by omega)
    refine ⟨o ++ [noneH w], c3, ⟨by rw [List.length_append, List.length_singleton]; omega, fun h hh => ?_⟩, hc3, ?_⟩
    · rcases List.mem_append.1 hh with hh | hh
      · exact ho.2 h hh
      · rw [List.mem_singleton.1 hh]
        exact ⟨by show (⟨#[]⟩ : ByteArray).size ≤ 40; decide, Nat.zero_le _, fun t ht => by cases ht⟩
    refine fnT C.spec_l14DrawHelds ?_
    refine runC ?_
    refine r_calln [0] h1 ?_
    refine runC ?_
    refine r_call1p 0 h2 ?_
    refine runC ?_
    refine r_call1p 0 h3 ?_
    refine run ?_
    refine r_apw ?_
    refine run ?_
    refine r_end [0, 3] [] (hs := ?_) (hres := by rw [List.length_append, List.length_singleton]; (simp only [go_sem, ↓reduceIte, Nat.reduceEqDiff, Nat.reduceMul, Nat.reduceAdd, Nat.reduceSub, Nat.reduceLT, Nat.reduceGT, Nat.reduceLeDiff, Nat.reduceBEq, Int.reduceLT, Int.reduceLE, Int.reduceNe, Int.reduceEq, Int.reduceToNat, Int.reduceAdd, Int.reduceSub, Int.reduceMul, Int.reduceNeg, Nat.reducePow, Int.reducePow, Nat.reduceSubDiff, decide_true, decide_false, reduceCtorEq, or_self, or_false, false_or, or_true, true_or, if_false, gt_iff_lt, ge_iff_le, ne_eq, not_true_eq_false, not_false_eq_true, and_self, beq_self_eq_true, Bool.false_eq_true]; try (repeat (first | exact True.intro | exact Wk.refl _ | exact Wk.nilR _ _ _ | exact Wk.nil _ _ | exact Wk.dead _ | exact Wk.bT (by assumption) | exact Wk.bF (by assumption) | exact Wk.eqI (by omega) | exact WkS.refl _ | exact Wks.same _ | exact Wks.nil | exact WkS.nil | refine And.intro ?_ ?_ | refine Wk.aggs ?_ | refine Wk.tups ?_ | refine Wks.cons ?_ ?_ | refine WkS.cons (by first | exact fun _ => rfl | exact fun h => absurd h Bool.false_ne_true) ?_ ?_ ?_ | assumption | exact (fun h => h) | exact (fun h => absurd h Bool.false_ne_true) | intro _))))
    rw [rowT_append, rowT_1]
    dsimp only [noneH, heldO]
    simp (disch := omega) only [go_sem, ↓reduceIte, Nat.reduceEqDiff, Nat.reduceMul, Nat.reduceAdd, Nat.reduceSub, Nat.reduceLT, Nat.reduceGT, Nat.reduceLeDiff, Nat.reduceBEq, Int.reduceLT, Int.reduceLE, Int.reduceNe, Int.reduceEq, Int.reduceToNat, Int.reduceAdd, Int.reduceSub, Int.reduceMul, Int.reduceNeg, Nat.reducePow, Int.reducePow, Nat.reduceSubDiff, decide_true, decide_false, reduceCtorEq, or_self, or_false, false_or, or_true, true_or, if_false, gt_iff_lt, ge_iff_le, ne_eq, not_true_eq_false, not_false_eq_true, and_self, beq_self_eq_true, Bool.false_eq_true]
    exact .cons (fun _ => rfl) (fun h => h) (fun _ => .same _) (.cons (fun _ => rfl) (fun h => h) (fun _ => wks_pre _ (.cons (.refl _) (.cons (.refl _) (.cons (.refl _) (.cons wk_nilS .nil))))) .nil)
  by_cases v1 : v = 1
  · subst v1
    cases o with
    | nil =>
      refine ⟨[], c2, capJ_of ho, hc2, ?_⟩
      refine fnT C.spec_l14DrawHelds ?_
      refine runC ?_
      refine r_calln [0] h1 ?_
      refine runC ?_
      refine r_call1p 0 h2 ?_
      refine run ?_
      exact r_end [0, 1] []
    | cons x o =>
      obtain ⟨w, c3, hw, hc3, h3⟩ := pick_ex l c2 [0, 1000, 1001] hc2 ⟨by decide, by decide⟩
      refine ⟨⟨w, x.size, x.dig, x.parts⟩ :: o, c3, ⟨by simp only [List.length_cons] at hol ⊢; omega, fun h hh => ?_⟩, hc3, ?_⟩
      · rcases List.mem_cons.1 hh with rfl | hh
        · exact ho.2 x (.head _)
        · exact ho.2 h (.tail _ hh)
      rw [rowT_cons] at h1 ⊢
      dsimp only [heldO, List.cons_append, List.nil_append] at h1 ⊢
      refine fnT C.spec_l14DrawHelds ?_
      refine runC ?_
      refine r_calln [0] h1 ?_
      refine runC ?_
      refine r_call1p 0 h2 ?_
      refine runC ?_
      refine r_call1p 0 (h3 1) ?_
      refine run ?_
      exact r_end [0, 1] []
  refine ⟨o, c2, capJ_of ho, hc2, ?_⟩
  refine fnT C.spec_l14DrawHelds ?_
  refine runC ?_
  refine r_calln [0] h1 ?_
  refine runC ?_
  refine r_call1p 0 h2 ?_
  refine run ?_
  exact r_end [0, 1] []

end Go.TL

/- What is drawn for HeldsOk: that there is a list, whatever the bytes. No conditions but those that are written. -/
namespace Go.TL
set_option linter.unusedSimpArgs false
open Go.Proofs Go.RowKit
attribute [local irreducible] wpOpsT wpT EndT Ex.seq Ex.block W

theorem drawHelds_ex (l : List Int) (hl : (∀ x ∈ l, 0 ≤ x ∧ x < 256) ∧ l.length ≤ 140737488351232) : ∃ o : List HeldV, capJ o ∧
    CallsT Try.prog [] F.spec_DrawHeldsOk [.sl false 0 l.length 1 (rowT u8C l)] (.ref 0 [] 0 o.length) [⟨4, true, rowT heldO o⟩] := by
  have h0 := spec_l1New l hl
  have hc0 : curP l ((0, newS l (newN l)) : Int × Int).1 := ⟨hl.1, hl.2, by dsimp only; omega, by dsimp only; omega⟩
  obtain ⟨o, c1, ho, hc1, h1⟩ := helds14_ex l (0, newS l (newN l)) hc0
  dsimp only at h1
  refine ⟨o, ho, ?_⟩
  refine fnT C.spec_DrawHeldsOk ?_
  refine runC ?_
  refine r_callp false h0 ?_
  refine runC ?_
  refine r_calln [0] h1 ?_
  refine run ?_
  exact r_end [1] []

end Go.TL
