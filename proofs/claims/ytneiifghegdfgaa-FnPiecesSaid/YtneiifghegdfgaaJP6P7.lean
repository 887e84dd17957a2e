/- Texts joined. No conditions but those that are written. -/
import Derived.Test.YtneiifghegdfgaaJP4P5
import Derived.Test.YtneiifghegdfgaaIns
/- Helds whose parts are not looked into: one is put into a list; both for lists of one's own. No conditions but those that are written. -/
namespace Go.TL
set_option linter.unusedSimpArgs false
open Go.Proofs Go.RowKit
attribute [local irreducible] wpOpsT wpT EndT Ex.seq Ex.block W

theorem filter_idx {α : Type} [Inhabited α] (p : α → Bool) (l : List α) : l.filter p = ((List.range l.length).filter fun i => p (nth l (i : Nat))).map fun i => nth l (i : Nat) := by
  have e : l = (List.range l.length).map fun i => nth l (i : Nat) := by
    refine List.ext_getElem (by simp) fun i h1 h2 => ?_
    rw [List.getElem_map, List.getElem_range, nth_nat h1]
  conv => lhs; rw [e]
  rw [List.filter_map]
  rfl
def keepH (r : Int) (x : HeldV) : Bool := !decide (x.rel = r)

theorem opq_one (V : Nat → Nat → Value) (hV : ∀ r j, (V r j).oneCell' = true) (l : List HeldV) : opqS V [⟨4, true, rowT heldO l⟩] = [⟨4, true, rowT qC (qof (V 0) (hV 0) l)⟩] := by
  show [(⟨4, true, opqL (V 0) (rowT heldO l)⟩ : Root)] = _
  rw [opq_row]

theorem deleteH (l : List HeldV) (r : Int) (hl : l.length ≤ 1000000) : CallsT Try.prog [⟨4, true, rowT heldO l⟩] F.slices_DeleteFunc_Held [.ref 0 [] 0 l.length, .clo 66 [.pz 1 [.v (.int .i64 r)] 0]] (.ref 1 [] 0 (l.filter (keepH r)).length) [⟨4, false, []⟩, ⟨4, true, rowT heldO (l.filter (keepH r))⟩] := by
  obtain ⟨J, hJ⟩ : ∃ J : List (Nat × Nat), J = ((List.range l.length).filter fun i => keepH r (nth l (i : Nat))).map fun i => (0, i) := ⟨_, rfl⟩
  have hS : ∀ s ∈ J, ([⟨4, true, rowT heldO l⟩] : Store)[s.1]? = some ⟨4, true, rowT heldO ((fun _ : Nat => l) s.1)⟩ ∧ s.2 < ((fun _ : Nat => l) s.1).length := fun s hs => by
    rw [hJ] at hs
    obtain ⟨i, hi, rfl⟩ := List.mem_map.1 hs
    exact ⟨rfl, List.mem_range.1 (List.mem_filter.1 hi).1⟩
  have hnd : J.Nodup := by
    rw [hJ]
    have hp : List.Pairwise (fun a b : Nat => a ≠ b) ((List.range l.length).filter fun i => keepH r (nth l (i : Nat))) := List.Pairwise.filter _ List.nodup_range
    exact List.pairwise_map.2 (hp.imp fun h e => h (congrArg Prod.snd e))
  have h := CallsT.opq (P := Try.prog) (S := [⟨4, true, rowT heldO l⟩]) (g := F.slices_DeleteFunc_Held) (args := [.ref 0 [] 0 l.length, .clo 66 [.pz 1 [.v (.int .i64 r)] 0]]) (n := (l.filter (keepH r)).length) (e := 4) (σ := cells4 J)
    (fun r x hx c hc => by
      cases r with
      | zero => cases hx; exact plain_heldO l c hc
      | succ r => cases hx)
    (valid4 (ls := fun _ => l) hS) (nodup4 hnd) (fun V hV => by
      obtain ⟨rest, hd⟩ := deleteQ (qof (V 0) (hV 0) l) r (by rw [qof_length]; exact hl)
      have hfe : ((List.range l.length).filter fun i => keepQ r (nth (qof (V 0) (hV 0) l) (i : Nat))) = (List.range l.length).filter fun i => keepH r (nth l (i : Nat)) := List.filter_congr fun i hi => by
        rw [qof_nth _ _ (List.mem_range.1 hi)]; rfl
      refine ⟨0, rest, [⟨4, true, rowT qC ((qof (V 0) (hV 0) l).filter (keepQ r)) ++ rest⟩], fun any => ?_, ?_⟩
      · rw [opq4 (ls := fun _ => l) hV hS, hJ, List.map_map, filter_idx, qof_length, hfe]
        rfl
      · rw [opq_one V hV]
        rw [qof_length] at hd
        have e : ((qof (V 0) (hV 0) l).filter (keepQ r)).length = (l.filter (keepH r)).length := by
          rw [filter_idx, filter_idx (keepH r) l, qof_length, hfe, List.length_map, List.length_map]
        rw [e] at hd
        exact hd)
  have e2 : (cells4 J).map (qpick [⟨4, true, rowT heldO l⟩]) = rowT heldO (l.filter (keepH r)) := by
    rw [pick4 (ls := fun _ => l) hS, hJ, List.map_map]
    congr 1
    exact (filter_idx (keepH r) l).symm
  rw [e2] at h
  exact h

/-! ### One is put in -/
/-- A row of plain cells that a callee has made anew, in its place or elsewhere. -/
theorem regrow_fin {E : Env} {w0 w' : World} {r e g cap n : Nat} {cs : List T} {xs : List Value} {arr : Array Value} {ty : TypeId} {mk : Nat × Nat} (h : Inv E w0) (hat : E.S.at false r [] = some (e, cs)) (hg : GrewAt E.w w' (E.φ r []) g)
    (ha : w'.heap[g]? = some (.cells arr ty mk)) (hmk : MkOk mk arr.size e) (h1 : n ≤ cap) (h2 : cap * e ≤ arr.size) (hl : xs.length = n * e) (hx : ∀ j v, xs[j]? = some v → arr.getD j undef = v ∧ v.oneCell' = true) :
    ∃ E', E'.w = w' ∧ E'.S = E.S.kill r ++ [⟨e, true, xs.map .v⟩] ∧ Inv E' w0 ∧ Evo E E' ∧ TR E' (.ref E.S.length [] 0 n) (.slice (some ⟨g, 0, none⟩) n cap) := by
  have hno : NoOwn (xs.map T.v) := fun j k n e c hc => by
    rw [List.getElem?_map] at hc
    obtain ⟨v, _, hv⟩ := Option.map_eq_some_iff.1 hc
    cases hv
  have hnew : ∀ any q y, q ≠ [] → cellsAt any e (xs.map T.v) q = some y → cellsAt any e cs q = some y := fun any q y hq hy => absurd (cellsAt_noOwn hno hy).1 hq
  have hle : n * e ≤ arr.size := Nat.le_trans (Nat.mul_le_mul_right _ h1) h2
  refine ⟨E.regrow w' r g ⟨e, true, xs.map .v⟩, rfl, rfl, h.regrow hat hg ⟨e, true, xs.map .v⟩ hnew ha hmk (by rw [List.length_map]; omega) (fun j c hc => ?_), Evo.regrow h hat hg _ hnew, ?_⟩
  · rw [List.getElem?_map] at hc
    obtain ⟨v, hv, rfl⟩ := Option.map_eq_some_iff.1 hc
    obtain ⟨e1, e2⟩ := hx j v hv
    rw [e1]
    exact .v _ e2
  · refine .ref (by simp [Env.regrow, Store.kill_length]) fun e2 cs2 hat2 => ?_
    have e3 : (E.regrow w' r g ⟨e, true, xs.map .v⟩).S.at false E.S.length [] = some (e, xs.map .v) := by
      simp only [Env.regrow]
      rw [Store.at_push, Store.kill_length, if_pos rfl]; rfl
    rw [e3] at hat2
    cases hat2
    have e4 : (E.regrow w' r g ⟨e, true, xs.map .v⟩).φ E.S.length [] = g := by simp [Env.regrow]
    rw [e4]
    exact ⟨cap, arr, ty, mk, ha, h1, by omega, rfl⟩

def zeroHeld : Value := .agg #[.int .i64 0, .agg #[.int .i64 0, .string ⟨#[]⟩, .slice none 0 0]]
theorem insLay : InsLay Try.prog (.agg #[.int .i64 0, .int .i64 0, .string ⟨#[]⟩, .slice none 0 0]) where
  mixed := by kernel_rfl
  fI := Try.func67
  fO := Try.func139
  t0 := by kernel_rfl
  a0 := fun _ => by kernel_rfl
  z0 := fun _ => by kernel_rfl
  v0 := fun _ => by kernel_rfl
  t3 := Try.underlying3
  a3 := Try.isAgg3
  z3 := Try.sizeOf3
  v3 := Try.zeroValue3
  t4 := Try.underlying4
  a4 := Try.isAgg4
  z4 := Try.sizeOf4
  v4 := Try.zeroValue4
  zH := Try.sizeOf72
  tS := Try.underlying24
  aS := Try.isAgg24
  zS := Try.sizeOf24
  vS := Try.zeroValue24
  iH := by kernel_rfl

def valQ (x : QV) : List Value := [.int .i64 x.rel, .int .i64 x.size, .string x.dig, x.p.val]
def valsQ (l : List QV) : List Value := l.flatMap valQ
theorem row_vals (l : List QV) : rowT qC l = (valsQ l).map T.v := by
  induction l with
  | nil => rfl
  | cons x l ih =>
    rw [rowT_cons, ih]
    unfold valsQ
    rw [List.flatMap_cons, List.map_append]
    rfl
theorem vals_len (l : List QV) : (valsQ l).length = l.length * 4 := by
  have := len_row (enc := qC) l
  rw [row_vals, List.length_map] at this
  exact this
theorem vals_append (a b : List QV) : valsQ (a ++ b) = valsQ a ++ valsQ b := by unfold valsQ; rw [List.flatMap_append]
theorem vals_one {l : List QV} : ∀ v ∈ valsQ l, v.oneCell' = true := fun v hv => by
  obtain ⟨x, _, hv⟩ := List.mem_flatMap.1 hv
  simp only [valQ, List.mem_cons, List.not_mem_nil, or_false] at hv
  rcases hv with rfl | rfl | rfl | rfl
  · rfl
  · rfl
  · rfl
  · exact x.p.ok
theorem vals_take {l : List QV} {i : Nat} : (valsQ l).take (i * 4) = valsQ (l.take i) := by
  have e := List.take_append_drop i l
  rcases Nat.le_total i l.length with h | h
  · conv => lhs; rw [← e, vals_append]
    rw [List.take_left' (by rw [vals_len, List.length_take]; omega)]
  · rw [List.take_of_length_le h, List.take_of_length_le (by rw [vals_len]; omega)]
theorem vals_drop {l : List QV} {i : Nat} : (valsQ l).drop (i * 4) = valsQ (l.drop i) := by
  have e := List.take_append_drop i l
  rcases Nat.le_total i l.length with h | h
  · conv => lhs; rw [← e, vals_append]
    rw [List.drop_left' (by rw [vals_len, List.length_take]; omega)]
  · rw [List.drop_of_length_le h, List.drop_of_length_le (by rw [vals_len]; omega)]; rfl

theorem setCells_after (g : Nat) (ty : TypeId) (mk : Nat × Nat) : ∀ (vs : List Value) (o : Nat) (w : World) (arr : Array Value), w.heap[g]? = some (.cells arr ty mk) → o + vs.length ≤ arr.size →
    ∃ arr' : Array Value, (w.setCells g o vs).heap[g]? = some (.cells arr' ty mk) ∧ ∀ j, o + vs.length ≤ j → arr'.getD j undef = arr.getD j undef
  | [], o, w, arr, h, _ => ⟨arr, h, fun _ _ => rfl⟩
  | v :: vs, o, w, arr, h, hl => by
    simp only [List.length_cons] at hl
    obtain ⟨arr', h2, h3⟩ := setCells_after g ty mk vs (o + 1) (w.setCell ⟨g, o, none⟩ v) (arr.setIfInBounds o v) (heap_setCell_same h) (by simp; omega)
    refine ⟨arr', h2, fun j hj => ?_⟩
    simp only [List.length_cons] at hj
    rw [h3 j (by omega), Array.getD_eq_getD_getElem?, Array.getElem?_setIfInBounds_ne (by omega), ← Array.getD_eq_getD_getElem?]
/-- What a world holds behind writes into one block. -/
theorem set_two {w : World} {g : Nat} {arr : Array Value} {ty : TypeId} {mk : Nat × Nat} {a c : List Value} {o1 o2 : Nat} (hg : w.heap[g]? = some (.cells arr ty mk)) (h1 : o1 + a.length ≤ arr.size) (h2 : o2 + c.length ≤ arr.size) :
    Wrote w ((w.setCells g o1 a).setCells g o2 c) g ∧ ∃ arr' : Array Value, ((w.setCells g o1 a).setCells g o2 c).heap[g]? = some (.cells arr' ty mk) ∧ arr'.size = arr.size ∧
      (∀ j, j < c.length → arr'.getD (o2 + j) undef = c.getD j undef) ∧ (∀ j, j < a.length → (o1 + j < o2 ∨ o2 + c.length ≤ o1 + j) → arr'.getD (o1 + j) undef = a.getD j undef) ∧ (∀ j, j < o1 → j < o2 → arr'.getD j undef = arr.getD j undef) := by
  obtain ⟨k1, arr1, k2, k3, k4, k5⟩ := setCells_wrote g ty mk a o1 w arr hg h1
  obtain ⟨l1, arr2, l2, l3, l4, l5⟩ := setCells_wrote g ty mk c o2 _ arr1 k2 (by omega)
  obtain ⟨arr3, m1, m2⟩ := setCells_after g ty mk c o2 _ arr1 k2 (by omega)
  rw [l2] at m1
  cases m1
  refine ⟨k1.trans l1, arr2, l2, by omega, l5, fun j hj ho => ?_, fun j ho1 ho2 => by rw [l4 j ho2, k4 j ho1]⟩
  rcases ho with ho | ho
  · rw [l4 _ ho, k5 j hj]
  · rw [m2 _ ho, k5 j hj]
theorem three_at {arr : Array Value} {A B C : List Value} (hA : ∀ j, j < A.length → arr.getD j undef = A.getD j undef) (hB : ∀ j, j < B.length → arr.getD (A.length + j) undef = B.getD j undef)
    (hC : ∀ j, j < C.length → arr.getD (A.length + B.length + j) undef = C.getD j undef) : ∀ j v, (A ++ (B ++ C))[j]? = some v → arr.getD j undef = v := fun j v hj => by
  have fin : ∀ {L : List Value} {t : Nat}, L[t]? = some v → L.getD t undef = v := fun h => by rw [List.getD_eq_getElem?_getD, h]; rfl
  rcases Nat.lt_or_ge j A.length with h1 | h1
  · rw [List.getElem?_append_left h1] at hj
    rw [hA j h1, fin hj]
  rw [List.getElem?_append_right h1] at hj
  rcases Nat.lt_or_ge (j - A.length) B.length with h2 | h2
  · rw [List.getElem?_append_left h2] at hj
    have := hB _ h2
    rw [show A.length + (j - A.length) = j by omega] at this
    rw [this, fin hj]
  · rw [List.getElem?_append_right h2] at hj
    have h3 := (List.getElem?_eq_some_iff.1 hj).1
    have := hC _ h3
    rw [show A.length + B.length + (j - A.length - B.length) = j by omega] at this
    rw [this, fin hj]

set_option maxHeartbeats 4000000 in
theorem insQ_mid (l : List QV) (y : QV) (i : Nat) (hi : i < l.length) (hl : l.length ≤ 1000000) : CallsT Try.prog [⟨4, true, rowT qC l⟩, ⟨4, true, qC y⟩] F.slices_Insert_Held [.ref 0 [] 0 l.length, .v (.int .i64 ((i : Nat))), .ref 1 [] 0 1] (.ref 2 [] 0 (l.length + 1)) [⟨4, false, rowT qC l⟩, ⟨4, true, qC y⟩, ⟨4, true, rowT qC (l.take i ++ y :: l.drop i)⟩] := by
  refine ⟨⟨Try.f67, Try.func67, by kernel_rfl, by kernel_rfl⟩, fun E w0 vals hS hI hsz ht => ?_⟩
  have hy : qC y = (valsQ [y]).map T.v := rfl
  have hat0 : E.S.at false 0 [] = some (4, (valsQ l).map T.v) := by rw [hS, ← row_vals]; rfl
  have hat1 : E.S.at false 1 [] = some (4, (valsQ [y]).map T.v) := by rw [hS]; rfl
  have h0 := ht 0 _ rfl
  have h1 := ht 1 _ rfl
  have h2 := ht 2 _ rfl
  have hvals : vals = #[vals.getD 0 undef, vals.getD 1 undef, vals.getD 2 undef] := by
    match vals, hsz with
    | ⟨[v0, v1, v2]⟩, _ => rfl
  generalize vals.getD 0 undef = v0 at *
  generalize vals.getD 1 undef = v1 at *
  generalize vals.getD 2 undef = v2 at *
  subst hvals
  have h0 : TR E (.ref 0 [] 0 l.length) v0 := h0
  have h1 : TR E (.v (.int .i64 ((i : Nat)))) v1 := h1
  have h2 : TR E (.ref 1 [] 0 1) v2 := h2
  cases h1
  obtain ⟨cap, arr, ty, mk, g1, g2, g3, rfl⟩ : SlV E.w (E.φ 0 []) 4 0 l.length v0 := by cases h0 with | ref hr hh => exact hh _ _ hat0
  obtain ⟨vcap, varr, vty, vmk, k1, k2, k3, rfl⟩ : SlV E.w (E.φ 1 []) 4 0 1 v2 := by cases h2 with | ref hr hh => exact hh _ _ hat1
  obtain ⟨arr', ty', mk', a1, a2, a3, a4, a5⟩ := hI.blk 0 [] 4 _ (Store.at_any hat0)
  obtain ⟨varr', vty', vmk', b1, b2, b3, b4, b5⟩ := hI.blk 1 [] 4 _ (Store.at_any hat1)
  rw [g1] at a1
  cases a1
  rw [k1] at b1
  cases b1
  have hne : E.φ 1 [] ≠ E.φ 0 [] := fun e => by
    have := (hI.inj _ _ _ _ _ _ (Store.at_any hat1) (Store.at_any hat0) e).1
    cases this
  have cont : ∀ {a : Array Value} {r : Nat} {vs : List Value}, (∀ j c, (vs.map T.v)[j]? = some c → CR E r [] j c (a.getD j undef)) → ∀ j v, vs[j]? = some v → a.getD j undef = v := fun hcr j v hj => by
    have := hcr j (.v v) (by rw [List.getElem?_map, hj]; rfl)
    cases this; rfl
  have c0 := cont a5
  have c1 := cont b5
  have hlen0 := vals_len l
  have hlen1 : (valsQ [y]).length = 1 * 4 := vals_len [y]
  rw [List.length_map] at a2 b2
  have hcs : ∀ j v, (valsQ l)[j]? = some v → E.w.cell? ⟨E.φ 0 [], j, none⟩ = some v := fun j v hj => by
    have hlt := (List.getElem?_eq_some_iff.1 hj).1
    rw [cell_of_row _ _ _ _ _ _ g1, Array.getElem?_eq_getElem (by omega), ← c0 j v hj, Array.getD_eq_getD_getElem?, Array.getElem?_eq_getElem (by omega)]; rfl
  have hvs : ∀ j v, (valsQ [y])[j]? = some v → E.w.cell? ⟨E.φ 1 [], j, none⟩ = some v := fun j v hj => by
    have hlt := (List.getElem?_eq_some_iff.1 hj).1
    rw [cell_of_row _ _ _ _ _ _ k1, Array.getElem?_eq_getElem (by omega), ← c1 j v hj, Array.getD_eq_getD_getElem?, Array.getElem?_eq_getElem (by omega)]; rfl
  have nofz : ∀ {b : Nat} {a : Array Value} {t : TypeId} {m : Nat × Nat} {j : Nat}, E.w.heap[b]? = some (.cells a t m) → MkOk m a.size 4 → j ≤ a.size → E.w.frozen? ⟨b, j, none⟩ = false := fun hb hm hj => by
    have := hm _ (Nat.lt_or_eq_of_le hj |>.imp_right fun e => ⟨e, by decide⟩)
    simp only [World.frozen?, hb]
    rw [Bool.eq_false_iff]
    intro hh
    simp only [Bool.and_eq_true, decide_eq_true_eq] at hh
    exact this hh
  have hdl : ((valsQ l).drop (i * 4)).length = (l.length - i) * 4 := by rw [List.length_drop, hlen0, Nat.sub_mul]
  have hres : valsQ (l.take i ++ y :: l.drop i) = (valsQ l).take (i * 4) ++ (valsQ [y] ++ (valsQ l).drop (i * 4)) := by
    rw [vals_take, vals_drop, ← vals_append, ← vals_append]; rfl
  have hkill : E.S.kill 0 ++ [⟨4, true, (valsQ (l.take i ++ y :: l.drop i)).map T.v⟩] = [⟨4, false, rowT qC l⟩, ⟨4, true, qC y⟩, ⟨4, true, rowT qC (l.take i ++ y :: l.drop i)⟩] := by rw [hS, ← row_vals]; rfl
  have hl2 : E.S.length = 2 := by rw [hS]; rfl
  have hrlen : (valsQ (l.take i ++ y :: l.drop i)).length = (l.length + 1) * 4 := by rw [vals_len, List.length_append, List.length_cons, List.length_take, List.length_drop]; omega
  by_cases hroom : l.length + 1 ≤ cap
  · refine (insert_shift insLay (E.φ 0 []) l.length cap i (E.φ 1 []) 1 vcap (valsQ l) (valsQ [y]) E.w hi (by decide) hroom (by omega) hne hlen0 hlen1 hcs (fun j hj => by
        rw [cell_of_row _ _ _ _ _ _ g1, Array.getElem?_eq_getElem (by omega)]; rfl) (fun j hj => nofz g1 a3 (by omega)) hvs vals_one vals_one vty ty varr.size arr.size (by simp [World.shape?, k1]) (by simp [World.shape?, g1]) (by omega) (nofz k1 b3 (Nat.zero_le _)) (nofz k1 b3 (Nat.le_refl _))).mono fun e w' ⟨he, hw⟩ => ?_
    have hgd : E.w.drew.heap[E.φ 0 []]? = some (.cells arr ty mk) := g1
    obtain ⟨s1, arr2, s2, s3, s4, s5, s6⟩ := set_two (w := E.w.drew) (a := (valsQ l).drop (i * 4)) (c := valsQ [y]) (o1 := (i + 1) * 4) (o2 := i * 4) hgd (by omega) (by omega)
    rw [← hw] at s1 s2
    have hwr : Wrote E.w w' (E.φ 0 []) := ⟨s1.os, s1.tape, s1.output, s1.size, s1.other, s1.same⟩
    have hA : ((valsQ l).take (i * 4)).length = i * 4 := by rw [List.length_take]; omega
    obtain ⟨E', p1, p2, p3, p4, p5⟩ := regrow_fin (cap := cap) (n := l.length + 1) (xs := valsQ (l.take i ++ y :: l.drop i)) hI hat0 (.inl ⟨rfl, hwr⟩) s2 (by rw [s3]; exact a3) hroom (by omega) hrlen (fun j v hj => by
      refine ⟨?_, vals_one v (List.mem_of_getElem? hj)⟩
      rw [hres] at hj
      refine three_at (fun j hj => ?_) (fun j hj => ?_) (fun j hj => ?_) j v hj
      · rw [hA] at hj
        rw [s6 j (by omega) hj, List.getD_eq_getElem?_getD, List.getElem?_take_of_lt hj, List.getElem?_eq_getElem (by omega)]
        exact c0 j _ (List.getElem?_eq_getElem (by omega))
      · rw [hA]; exact s4 j hj
      · rw [hA, hlen1, show i * 4 + 1 * 4 + j = (i + 1) * 4 + j by omega]
        exact s5 j hj (.inr (by omega)))
    exact ⟨_, E', he, p1, by rw [p2]; exact hkill, p3, p4, by rw [hl2] at p5; exact p5⟩
  · refine (insert_grow insLay rfl (E.φ 0 []) l.length cap i (E.φ 1 []) 1 vcap (valsQ l) (valsQ [y]) E.w hi (by decide) g2 (by omega) (by omega) hlen0 hlen1 hcs hvs vals_one vals_one).mono fun e w' ⟨he, hw⟩ => ?_
    have hG := grownCap_ge E.w (l.length + 1) cap 72
    generalize hGG : grownCap E.w (l.length + 1) cap 72 = G at *
    generalize hROW : ((valsQ l).take (i * 4)).toArray ++ Builtin.zeroCells (Value.agg #[.int .i64 0, .int .i64 0, .string ⟨#[]⟩, .slice none 0 0]).cells (l.length + 1 - i) ++ Builtin.zeroCells (Value.agg #[.int .i64 0, .int .i64 0, .string ⟨#[]⟩, .slice none 0 0]).cells (G - (l.length + 1)) = ROW at *
    have hA : ((valsQ l).take (i * 4)).length = i * 4 := by rw [List.length_take]; omega
    have hRs : ROW.size = G * 4 := by
      have hz4 : (Value.agg #[.int .i64 0, .int .i64 0, .string ⟨#[]⟩, .slice none 0 0]).cells.size = 4 := rfl
      rw [← hROW]
      simp only [Array.size_append, List.size_toArray, size_zc, hz4, hA]
      omega
    have hR0 : ∀ j, j < i * 4 → ROW.getD j undef = (valsQ l).getD j undef := fun j hj => by
      rw [← hROW, Array.getD_eq_getD_getElem?, Array.append_assoc, Array.getElem?_append_left (by rw [List.size_toArray, hA]; exact hj), List.getElem?_toArray, List.getElem?_take_of_lt hj, ← List.getD_eq_getElem?_getD]
    have hmd := Made.alloc E.w ROW 72 (0, 0)
    rw [drew_setCells] at hw
    obtain ⟨s1, arr2, s2, s3, s4, s5, s6⟩ := set_two (w := (E.w.alloc (.cells ROW 72)).drew.drew) (g := E.w.heap.size) (arr := ROW) (ty := 72) (mk := (0, 0)) (a := valsQ [y]) (c := (valsQ l).drop (i * 4)) (o1 := i * 4) (o2 := (i + 1) * 4) hmd.new (by omega) (by omega)
    rw [← hw] at s1 s2
    have hmd2 : Made E.w w' arr2 72 (0, 0) := ⟨s1.os.trans hmd.os, s1.tape.trans hmd.tape, s1.output.trans hmd.output, s1.size.trans hmd.size, fun b hb => (s1.other b (by omega)).trans (hmd.old b hb), s2⟩
    obtain ⟨E', p1, p2, p3, p4, p5⟩ := regrow_fin (cap := G) (n := l.length + 1) (xs := valsQ (l.take i ++ y :: l.drop i)) hI hat0 (.inr ⟨rfl, _, _, _, hmd2⟩) s2 (mk0 _ _) hG (by omega) hrlen (fun j v hj => by
      refine ⟨?_, vals_one v (List.mem_of_getElem? hj)⟩
      rw [hres] at hj
      refine three_at (fun j hj => ?_) (fun j hj => ?_) (fun j hj => ?_) j v hj
      · rw [hA] at hj
        rw [s6 j hj (by omega), hR0 j hj, List.getD_eq_getElem?_getD, List.getD_eq_getElem?_getD, List.getElem?_take_of_lt hj]
      · rw [hA]
        exact s5 j hj (.inl (by omega))
      · rw [hA, hlen1, show i * 4 + 1 * 4 + j = (i + 1) * 4 + j by omega]
        exact s4 j hj)
    exact ⟨_, E', he, p1, by rw [p2]; exact hkill, p3, p4, by rw [hl2] at p5; exact p5⟩

end Go.TL

/- One held is put into a list of one's own, wherever. No conditions but those that are written. -/
namespace Go.TL
set_option linter.unusedSimpArgs false
open Go.Proofs Go.RowKit
attribute [local irreducible] wpOpsT wpT EndT Ex.seq Ex.block W

def tailT (r off n e : Nat) (p : List Nat) : T := if n = 0 then .ref r p off n else .sl false 0 0 e []
theorem slice_ref_end {P : Program} {S : Store} (t : TypeId) (r off n : Nat) (p : List Nat) (q : IntKind) : sliceT P S t (.ref r p off n) (some (.v (.int q (n : Nat)))) none = (match elemT P t with
    | some e => match szT P e, S.at false r p with
      | some sz, some (e', _) => if e' = sz then some (tailT r off n e' p) else none
      | _, _ => none
    | none => none) := by
  simp only [sliceT, boundsT, intT]
  rw [if_pos (show 0 ≤ (n : Int) ∧ (n : Int) ≤ (n : Int) ∧ (n : Int) ≤ (n : Int) by omega)]
  simp only [Option.map_some, Int.toNat_natCast]
  have e1 : ∀ e' : Nat, (if n = 0 then T.ref r p off n else if n < n then T.ref r p (off + n * e') (n - n) else T.sl false 0 0 e' []) = tailT r off n e' p := fun e' => by
    unfold tailT
    by_cases h : n = 0
    · rw [if_pos h, if_pos h]
    · rw [if_neg h, if_neg h, if_neg (by omega)]
  simp only [e1]
  rfl
attribute [local go_sem] slice_ref_end
theorem keep_two : ∀ i, i < 2 → ([0, 1, 2] : List Nat)[i]? = some i := fun i hi => by
  match i, hi with
  | 0, _ => rfl
  | 1, _ => rfl

set_option maxHeartbeats 4000000 in
theorem insQ_end (l : List QV) (y : QV) (hl : l.length ≤ 1000000) : CallsT Try.prog [⟨4, true, rowT qC l⟩, ⟨4, true, qC y⟩] F.slices_Insert_Held [.ref 0 [] 0 l.length, .v (.int .i64 ((l.length : Nat))), .ref 1 [] 0 1] (.ref 2 [] 0 (l.length + 1)) [⟨4, false, rowT qC l⟩, ⟨4, true, qC y⟩, ⟨4, true, rowT qC (l ++ [y])⟩] := by
  refine fnT C.slices_Insert_Held ?_
  refine run ?_
  rw [List.length_append, List.length_singleton]
  exact r_end [0, 1, 2] [] (hm := keep_two)

/-! ### For lists of one's own -/
theorem opq_two (V : Nat → Nat → Value) (hV : ∀ r j, (V r j).oneCell' = true) (l m : List HeldV) : opqS V [⟨4, true, rowT heldO l⟩, ⟨4, true, rowT heldO m⟩] = [⟨4, true, rowT qC (qof (V 0) (hV 0) l)⟩, ⟨4, true, rowT qC (qof (V 1) (hV 1) m)⟩] := by
  show [(⟨4, true, opqL (V 0) (rowT heldO l)⟩ : Root), ⟨4, true, opqL (V 1) (rowT heldO m)⟩] = _
  rw [opq_row, opq_row]
def insJ (n i : Nat) : List (Nat × Nat) := ((List.range i).map fun t => (0, t)) ++ ((1, 0) :: (List.range (n - i)).map fun t => (0, i + t))
theorem insJ_nodup {n i : Nat} : (insJ n i).Nodup := by
  unfold insJ List.Nodup
  rw [List.pairwise_append]
  have h1 : List.Pairwise (fun a b : Nat × Nat => a ≠ b) ((List.range i).map fun t => ((0, t) : Nat × Nat)) := by
    rw [List.pairwise_map]
    exact List.nodup_range.imp fun h e => h (congrArg Prod.snd e)
  have h2 : List.Pairwise (fun a b : Nat × Nat => a ≠ b) ((List.range (n - i)).map fun t => ((0, i + t) : Nat × Nat)) := by
    rw [List.pairwise_map]
    refine List.nodup_range.imp ?_
    intro a b h e
    have e2 : i + a = i + b := congrArg Prod.snd e
    exact h (by omega)
  refine ⟨h1, List.pairwise_cons.2 ⟨?_, h2⟩, ?_⟩
  · intro x hx e
    obtain ⟨t, _, rfl⟩ := List.mem_map.1 hx
    cases e
  · intro x hx y hy e
    obtain ⟨t, ht, rfl⟩ := List.mem_map.1 hx
    have ht := List.mem_range.1 ht
    rcases List.mem_cons.1 hy with h | h
    · rw [h] at e
      cases e
    · obtain ⟨u, _, rfl⟩ := List.mem_map.1 h
      have e2 : t = i + u := congrArg Prod.snd e
      omega
theorem insJ_map {α : Type} [Inhabited α] {l : List α} {y : α} {i : Nat} (h : i ≤ l.length) (f : Nat × Nat → α) (h0 : ∀ t : Nat, t < l.length → f (0, t) = nth l (t : Nat)) (h1 : f (1, 0) = y) : (insJ l.length i).map f = l.take i ++ y :: l.drop i := by
  unfold insJ
  rw [List.map_append, List.map_cons, List.map_map, List.map_map, h1]
  congr 1
  · refine List.ext_getElem (by simp; omega) fun t k1 k2 => ?_
    rw [List.getElem_map, List.getElem_range, List.getElem_take]
    simp only [List.length_map, List.length_range] at k1
    show f (0, t) = _
    rw [h0 t (by omega), nth_nat (by omega)]
  · congr 1
    refine List.ext_getElem (by simp) fun t k1 k2 => ?_
    rw [List.getElem_map, List.getElem_range, List.getElem_drop]
    simp only [List.length_map, List.length_range] at k1
    show f (0, i + t) = _
    rw [h0 (i + t) (by omega), nth_nat (by omega)]

theorem insertH (l : List HeldV) (y : HeldV) (i : Nat) (hi : i ≤ l.length) (hl : l.length ≤ 1000000) : CallsT Try.prog [⟨4, true, rowT heldO l⟩, ⟨4, true, heldO y⟩] F.slices_Insert_Held [.ref 0 [] 0 l.length, .v (.int .i64 ((i : Nat))), .ref 1 [] 0 1] (.ref 2 [] 0 (l.length + 1)) [⟨4, false, []⟩, ⟨4, false, []⟩, ⟨4, true, rowT heldO (l.take i ++ y :: l.drop i)⟩] := by
  obtain ⟨ls, hls⟩ : ∃ ls : Nat → List HeldV, ls = fun r => if r = 0 then l else [y] := ⟨_, rfl⟩
  have ls0 : ls 0 = l := by rw [hls]; rfl
  have ls1 : ls 1 = [y] := by rw [hls]; rfl
  have hS : ∀ s ∈ insJ l.length i, ([⟨4, true, rowT heldO l⟩, ⟨4, true, rowT heldO [y]⟩] : Store)[s.1]? = some ⟨4, true, rowT heldO (ls s.1)⟩ ∧ s.2 < (ls s.1).length := fun s hs => by
    unfold insJ at hs
    rcases List.mem_append.1 hs with hs | hs
    · obtain ⟨t, ht, rfl⟩ := List.mem_map.1 hs
      have := List.mem_range.1 ht
      rw [ls0]
      exact ⟨rfl, by show t < l.length; omega⟩
    rcases List.mem_cons.1 hs with rfl | hs
    · rw [ls1]
      exact ⟨rfl, by show 0 < 1; decide⟩
    · obtain ⟨t, ht, rfl⟩ := List.mem_map.1 hs
      have := List.mem_range.1 ht
      rw [ls0]
      exact ⟨rfl, by show i + t < l.length; omega⟩
  have hy1 : heldO y = rowT heldO [y] := (List.append_nil (heldO y)).symm
  rw [hy1]
  have h := CallsT.opq (P := Try.prog) (S := [⟨4, true, rowT heldO l⟩, ⟨4, true, rowT heldO [y]⟩]) (g := F.slices_Insert_Held) (args := [.ref 0 [] 0 l.length, .v (.int .i64 ((i : Nat))), .ref 1 [] 0 1]) (n := l.length + 1) (e := 4) (σ := cells4 (insJ l.length i))
    (fun r x hx c hc => by
      match r, hx with
      | 0, hx => cases hx; exact plain_heldO l c hc
      | 1, hx => cases hx; exact plain_heldO [y] c hc)
    (valid4 (ls := ls) hS) (nodup4 insJ_nodup) (fun V hV => by
      have hq1 : ∃ z : QV, qof (V 1) (hV 1) [y] = [z] := ⟨_, rfl⟩
      obtain ⟨z, hz⟩ := hq1
      have e3 : (insJ l.length i).map (fun s => nth (qof (V s.1) (hV s.1) (ls s.1)) (s.2 : Nat)) = (qof (V 0) (hV 0) l).take i ++ z :: (qof (V 0) (hV 0) l).drop i := by
        have := insJ_map (l := qof (V 0) (hV 0) l) (y := z) (i := i) (by rw [qof_length]; exact hi) (fun s => nth (qof (V s.1) (hV s.1) (ls s.1)) (s.2 : Nat)) (fun t _ => by dsimp only; rw [ls0]) (by dsimp only; rw [ls1, hz]; rfl)
        rwa [qof_length] at this
      refine ⟨2, [], [⟨4, false, rowT qC (qof (V 0) (hV 0) l)⟩, ⟨4, true, qC z⟩, ⟨4, true, rowT qC ((qof (V 0) (hV 0) l).take i ++ z :: (qof (V 0) (hV 0) l).drop i)⟩], fun any => ?_, ?_⟩
      · rw [opq4 (ls := ls) hV hS, e3, List.append_nil]
        rfl
      · rw [opq_two V hV, hz]
        have hz1 : rowT qC [z] = qC z := List.append_nil (qC z)
        rw [hz1]
        have hql := qof_length (V 0) (hV 0) l
        rcases Nat.lt_or_ge i l.length with hlt | hge
        · have := insQ_mid (qof (V 0) (hV 0) l) z i (by omega) (by omega)
          rwa [hql] at this
        · obtain rfl : i = l.length := by omega
          have := insQ_end (qof (V 0) (hV 0) l) z (by omega)
          rw [hql] at this
          rw [List.take_of_length_le (by omega), List.drop_of_length_le (by omega)]
          exact this)
  have e2 : (cells4 (insJ l.length i)).map (qpick [⟨4, true, rowT heldO l⟩, ⟨4, true, rowT heldO [y]⟩]) = rowT heldO (l.take i ++ y :: l.drop i) := by
    rw [pick4 (ls := ls) hS]
    congr 1
    exact insJ_map hi _ (fun t _ => by dsimp only; rw [ls0]) (by dsimp only; rw [ls1]; rfl)
  rw [e2] at h
  exact h

end Go.TL
