/- Texts joined. No conditions but those that are written. -/
import Derived.Test.YthkahdjgkcccgaaG6
import Derived.Test.YthkahdjgkcccgaaL16
/- Rows of commands that are drawn: that there is one, whatever the bytes. No conditions but those that are written. -/
namespace Go.TL
set_option linter.unusedSimpArgs false
open Go.Proofs Go.RowKit
attribute [local irreducible] wpOpsT wpT EndT Ex.seq Ex.block W

/-- The last number of a roll. -/
def lastNo (rels : List RelV) : Int := if 0 < (rels.length : Int) then (nth rels ((rels.length : Int) - 1)).no else 0
def rollX (x : RollV) : Prop := rollP x.of x.rels x.act x.order
theorem rollX_of {x : RollV} (h : rollX x) : ofP x.of := h.1
theorem lastNo_b {x : RollV} (h : rollX x) : 0 ≤ lastNo x.rels ∧ lastNo x.rels ≤ 1000 := by
  unfold lastNo
  split
  · rename_i h0
    have := (h.2.2.1 (x.rels.length - 1) (by omega)).1
    rw [show (((x.rels.length - 1 : Nat)) : Int) = (x.rels.length : Int) - 1 by omega] at this
    omega
  · omega

theorem next_ex (l : List Int) (c : Int × Int) (x : RollV) (hc : curP l c.1) (hx : rollX x) :
    ∃ (y : CmdV) (c' : Int × Int), (y.dig.size ≤ 32 ∧ (y.kind = 2 → y.rel ≤ lastNo x.rels + 4)) ∧ curP l c'.1 ∧ ∀ k0 k1, CallsT Try.prog [⟨0, true, [.sl false 0 l.length 1 (rowT u8C l), .v (.int .i64 c.1), .v (.int .i64 c.2)]⟩] F.spec_l7DrawNext [.ptr 0 [] 0, .agg [.v (.int .i64 x.of), .sl false k0 x.rels.length 5 (rowT relC x.rels), .v (.int .i64 x.act), .sl false k1 x.order.length 1 (rowT i64C x.order)]] (.agg [.v (.int .i64 y.kind), .v (.int .i64 y.rel), .v (.int .i64 y.node), .v (.int .i64 y.size), .v (.string y.dig)]) [⟨0, true, [.sl false 0 l.length 1 (rowT u8C l), .v (.int .i64 (c'.1)), .v (.int .i64 (c'.2))]⟩] := by
  have hb := lastNo_b hx
  have ho : 0 < x.of ∧ x.of ≤ 5 := by have := rollX_of hx; unfold ofP at this; omega
  have hl : (x.rels.length : Int) ≤ 30 := hx.2.1
  clear hx
  obtain ⟨of, rels, act, order⟩ := x
  dsimp only at *
  cases hr : rels with
  | nil =>
    obtain ⟨y, c', h1, h2, h3⟩ := next_0 l c of act order hc
    exact ⟨y, c', ⟨h1.1, fun h => by have := h1.2 h; simp [lastNo]; omega⟩, h2, h3⟩
  | cons a r =>
    rw [← hr]
    have h0 : 0 < rels.length := by rw [hr]; simp
    have e : lastNo rels = (nth rels ((rels.length : Int) - 1)).no := if_pos (by omega)
    rw [e] at hb ⊢
    exact next_1 l c of rels act order hc ho ⟨h0, by omega⟩ hb

theorem applyC_ok {x : RollV} {y : CmdV} (_hx : rollX x) (h : (applyC x y).2 = 0) : rollX (applyC x y).1 ∧ keepP x.rels y.rel (applyC x y).1.rels ∧ applyC x y = applyR x.of x.rels x.act x.order y.kind y.rel y.node y.size y.dig := by
  unfold applyC applyP at h ⊢
  split at h
  · rename_i hh
    rw [if_pos hh]
    have := roll_apply hh.1 hh.2
    exact ⟨this.1, this.2, rfl⟩
  · cases h
theorem applyR_of (of : Int) (rels : List RelV) (act : Int) (order : List Int) (k r n z : Int) (d : ByteArray) : (applyR of rels act order k r n z d).1.of = of := by
  unfold applyR
  repeat' (first | rfl | split)
/-- No number is greater than B. -/
def nosB (rels : List RelV) (B : Int) : Prop := ∀ t, t < rels.length → (nth rels (t : Nat)).no ≤ B
theorem nosB_set {rels : List RelV} {B : Int} (h : nosB rels B) {i : Nat} {x : RelV} (hn : x.no = (nth rels (i : Nat)).no) : nosB (rels.set i x) B := by
  intro t ht
  rw [List.length_set] at ht
  rw [nth_setL ht]
  split
  · rename_i e; subst e; rw [hn]; exact h _ ht
  · exact h t ht
theorem nosB_app {rels : List RelV} {B : Int} (h : nosB rels B) {x : RelV} (hx : x.no ≤ B) : nosB (rels ++ [x]) B := by
  intro t ht
  rw [List.length_append, List.length_singleton] at ht
  rcases Nat.lt_or_ge t rels.length with h1 | h1
  · rw [nthA_lt h1]; exact h t h1
  · obtain rfl : t = rels.length := by omega
    rw [nthA_at]; exact hx
theorem nosB_apply {of : Int} {rels : List RelV} {act : Int} {order : List Int} {k r n z : Int} {d : ByteArray} {B : Int} (h : nosB rels B) (hk : k = 2 → r ≤ B) : nosB (applyR of rels act order k r n z d).1.rels B := by
  have hset : ∀ x : RelV, ¬ findR rels r < 0 → x.no = (nth rels (findR rels r)).no → nosB (rels.set (findR rels r).toNat x) B := fun x h0 hn => by
    refine nosB_set h ?_
    rw [hn]
    congr 2
    omega
  unfold applyR
  split
  · exact h
  split
  · rename_i k2
    split
    · exact h
    split
    · exact h
    · exact nosB_app h (hk k2)
  split
  · exact h
  rename_i h1
  have h1 : ¬ findR rels r < 0 := fun hh => h1 (.inl hh)
  split
  · exact h
  split
  · exact hset _ h1 rfl
  split
  · split
    · exact h
    split
    · exact h
    · exact hset _ h1 rfl
  split
  · exact hset _ h1 rfl
  · exact h
theorem nosB_last {rels : List RelV} {B : Int} (h : nosB rels B) (hB : 0 ≤ B) : lastNo rels ≤ B := by
  unfold lastNo
  split
  · rename_i h0
    have := h (rels.length - 1) (by omega)
    rw [show (((rels.length - 1 : Nat)) : Int) = (rels.length : Int) - 1 by omega] at this
    exact this
  · exact hB
theorem nosB_mono {rels : List RelV} {B B' : Int} (h : nosB rels B) (hB : B ≤ B') : nosB rels B' := fun t ht => Int.le_trans (h t ht) hB

/-- The loop of the draws: from what is drawn for the end, and for a command. -/
def nextX (x : RollV) (y : CmdV) : RollV := if (applyC x y).2 = 0 then (applyC x y).1 else x
def cmdsF (b : Int × Int → Int × (Int × Int)) (f : (Int × Int) × RollV → CmdV × (Int × Int)) : Nat → Int → Int × Int → RollV → List CmdV → (Int × Int) × List CmdV
  | 0, _, c, _, o => (c, o)
  | m + 1, i, c, x, o => if i < (b c).1 then cmdsF b f m (i + 1) (f ((b c).2, x)).2 (nextX x (f ((b c).2, x)).1) (o ++ [(f ((b c).2, x)).1]) else ((b c).2, o)
theorem nextX_ok {x : RollV} {y : CmdV} {B : Int} (hx : rollX x) (h : nosB x.rels B) (hy : y.kind = 2 → y.rel ≤ B) : rollX (nextX x y) ∧ (nextX x y).of = x.of ∧ nosB (nextX x y).rels B := by
  unfold nextX
  split
  · rename_i h0
    have h1 := applyC_ok hx h0
    refine ⟨h1.1, ?_, ?_⟩
    · rw [h1.2.2, applyR_of]
    · rw [h1.2.2]; exact nosB_apply h hy
  · exact ⟨hx, rfl, h⟩

/-- What a row of commands is that is drawn. -/
def cmdsP (most : Int) (o : List CmdV) : Prop := ∀ y ∈ o, y.dig.size ≤ 32 ∧ (y.kind = 2 → y.rel ≤ 4 * most)
theorem cmdsF_ok {l : List Int} {most of : Int} {b : Int × Int → Int × (Int × Int)} {f : (Int × Int) × RollV → CmdV × (Int × Int)} (hb : ∀ c, curP l c.1 → (b c).1 ≤ most ∧ curP l (b c).2.1)
    (hf : ∀ c x, curP l c.1 → rollX x → ((f (c, x)).1.dig.size ≤ 32 ∧ ((f (c, x)).1.kind = 2 → (f (c, x)).1.rel ≤ lastNo x.rels + 4)) ∧ curP l (f (c, x)).2.1) :
    ∀ (m n : Nat) (c : Int × Int) (x : RollV) (o : List CmdV), (n : Int) ≤ most → curP l c.1 → rollX x → x.of = of → nosB x.rels (4 * n) → o.length = n → cmdsP most o → curP l (cmdsF b f m n c x o).1.1 ∧ (((cmdsF b f m n c x o).2.length : Int) ≤ most) ∧ cmdsP most (cmdsF b f m n c x o).2
  | 0, n, c, x, o, hn, hc, _, _, _, hl, ho => ⟨hc, by rw [cmdsF]; dsimp only; omega, ho⟩
  | m + 1, n, c, x, o, hn, hc, hx, hof, hB, hl, ho => by
    have h1 := hb c hc
    rw [cmdsF]
    split
    · rename_i hlt
      have h2 := hf (b c).2 x h1.2 hx
      have h3 := nosB_last hB (by omega)
      have hy : (f ((b c).2, x)).1.kind = 2 → (f ((b c).2, x)).1.rel ≤ 4 * ((n + 1 : Nat) : Int) := fun hk => by have := h2.1.2 hk; omega
      have h4 := nextX_ok hx (nosB_mono hB (B' := 4 * ((n + 1 : Nat) : Int)) (by omega)) hy
      have := cmdsF_ok hb hf m (n + 1) (f ((b c).2, x)).2 (nextX x (f ((b c).2, x)).1) (o ++ [(f ((b c).2, x)).1]) (by omega) h2.2 h4.1 (h4.2.1.trans hof) h4.2.2 (by rw [List.length_append, hl]; rfl) (fun y hm => by
        rcases List.mem_append.1 hm with hm | hm
        · exact ho y hm
        · rw [List.mem_singleton.1 hm]
          exact ⟨h2.1.1, fun hk => by have := hy hk; omega⟩)
      exact this
    · exact ⟨h1.2, by dsimp only; omega, ho⟩

end Go.TL

/- Rows of commands that are drawn: the walk. No conditions but those that are written. -/
namespace Go.TL
set_option linter.unusedSimpArgs false
open Go.Proofs Go.RowKit
attribute [local irreducible] wpOpsT wpT EndT Ex.seq Ex.block W

def tagE {α : Type} (l : List α) (L : Nat) : Nat := match l with | [] => 0 | _ :: _ => L
@[go_sem] theorem lendK_O {α : Type} {enc encC : α → List T} {sz : Nat} [RowO enc encC sz] (L : Nat) (l : List α) : lendK sz l L none (if (!l.isEmpty) = true then some (sz, rowT enc l) else none) = some (.sl false (tagE l L) l.length sz (rowT encC l)) := by
  cases l with
  | nil => rfl
  | cons x l => exact lendR_rowO L (x :: l)
@[go_sem] theorem lendK_E {α : Type} {enc : α → List T} {sz : Nat} [RowE enc sz] (L : Nat) (l : List α) : lendK sz l L none (if (!l.isEmpty) = true then some (sz, rowT enc l) else none) = some (.sl false (tagE l L) l.length sz (rowT enc l)) := by
  cases l with
  | nil => rfl
  | cons x l => exact lendR_row L (x :: l)

/-- The state of the loop: how many, whether the roll is new, the cursor, the roll, the commands. -/
structure CmS where
  n : Nat
  nw : Bool
  c : Int × Int
  x : RollV
  o : List CmdV
def cmG (l : List Int) (s : CmS) : Store := match s.nw with
  | true => [⟨0, true, [.sl false 0 l.length 1 (rowT u8C l), .v (.int .i64 s.c.1), .v (.int .i64 s.c.2)]⟩, ⟨0, true, [.v (.int .i64 s.x.of), .sl false 0 0 5 [], .v (.int .i64 0), .sl false 0 0 1 []]⟩, ⟨5, true, rowT cmdC s.o⟩]
  | false => [⟨0, true, [.sl false 0 l.length 1 (rowT u8C l), .v (.int .i64 s.c.1), .v (.int .i64 s.c.2)]⟩, ⟨0, true, [.v (.int .i64 s.x.of), rowR 5 3 s.x.rels, .v (.int .i64 s.x.act), rowR 1 4 s.x.order]⟩, ⟨5, true, rowT cmdC s.o⟩, ⟨5, !s.x.rels.isEmpty, rowT relO s.x.rels⟩, ⟨1, !s.x.order.isEmpty, rowT i64C s.x.order⟩]
theorem rollX_new {of : Int} (ho : ofP of) : rollX ⟨of, [], 0, []⟩ := ⟨ho, by show ((0 : Nat) : Int) ≤ 30; omega, fun i hi => absurd hi (Nat.not_lt_zero _), rfl, rfl⟩
theorem rollX_tot {x : RollV} (h : rollX x) : totRoll x.rels x.order ≤ 2000 := tot_ok h

set_option linter.unusedSimpArgs false in
set_option maxHeartbeats 8000000 in
theorem cmds_ex (l : List Int) (c0 : Int × Int) (of most : Int) (hc0 : curP l c0.1) (ho : ofP of) (hm : 0 ≤ most ∧ most ≤ 100) :
    ∃ (o : List CmdV) (c' : Int × Int), ((o.length : Int) ≤ most ∧ cmdsP most o) ∧ curP l c'.1 ∧ CallsT Try.prog [⟨0, true, [.sl false 0 l.length 1 (rowT u8C l), .v (.int .i64 c0.1), .v (.int .i64 c0.2)]⟩] F.spec_l7DrawCmds [.ptr 0 [] 0, .v (.int .i64 of), .v (.int .i64 most)] (.ref 1 [] 0 o.length) [⟨0, true, [.sl false 0 l.length 1 (rowT u8C l), .v (.int .i64 (c'.1)), .v (.int .i64 (c'.2))]⟩, ⟨5, true, rowT cmdC o⟩] := by
  obtain ⟨f, hf⟩ := Classical.axiomOfChoice (r := fun (s : (Int × Int) × RollV) (z : CmdV × (Int × Int)) => curP l s.1.1 → rollX s.2 → (z.1.dig.size ≤ 32 ∧ (z.1.kind = 2 → z.1.rel ≤ lastNo s.2.rels + 4)) ∧ curP l z.2.1 ∧ ∀ k0 k1, CallsT Try.prog [⟨0, true, [.sl false 0 l.length 1 (rowT u8C l), .v (.int .i64 s.1.1), .v (.int .i64 s.1.2)]⟩] F.spec_l7DrawNext [.ptr 0 [] 0, .agg [.v (.int .i64 s.2.of), .sl false k0 s.2.rels.length 5 (rowT relC s.2.rels), .v (.int .i64 s.2.act), .sl false k1 s.2.order.length 1 (rowT i64C s.2.order)]] (.agg [.v (.int .i64 z.1.kind), .v (.int .i64 z.1.rel), .v (.int .i64 z.1.node), .v (.int .i64 z.1.size), .v (.string z.1.dig)]) [⟨0, true, [.sl false 0 l.length 1 (rowT u8C l), .v (.int .i64 z.2.1), .v (.int .i64 z.2.2)]⟩]) (fun s => by
    by_cases h : curP l s.1.1 ∧ rollX s.2
    · obtain ⟨y, c', h1, h2, h3⟩ := next_ex l s.1 s.2 h.1 h.2
      exact ⟨(y, c'), fun _ _ => ⟨h1, h2, h3⟩⟩
    · exact ⟨(default, (0, 0)), fun h1 h2 => absurd ⟨h1, h2⟩ h⟩)
  obtain ⟨b, hb⟩ := Classical.axiomOfChoice (r := fun (c : Int × Int) (z : Int × (Int × Int)) => curP l c.1 → z.1 ≤ most ∧ curP l z.2.1 ∧ CallsT Try.prog [⟨0, true, [.sl false 0 l.length 1 (rowT u8C l), .v (.int .i64 c.1), .v (.int .i64 c.2)]⟩] F.spec_l1Below [.ptr 0 [] 0, .v (.int .i64 (most + 1))] (.v (.int .i64 z.1)) [⟨0, true, [.sl false 0 l.length 1 (rowT u8C l), .v (.int .i64 z.2.1), .v (.int .i64 z.2.2)]⟩]) (fun c => by
    by_cases h : curP l c.1
    · obtain ⟨v, c', h1, h2, h3⟩ := below_ex l c (most + 1) h (by omega)
      exact ⟨(v, c'), fun _ => ⟨by dsimp only; omega, h2, h3⟩⟩
    · exact ⟨(0, (0, 0)), fun h1 => absurd h1 h⟩)
  have hF := cmdsF_ok (l := l) (most := most) (of := of) (b := b) (f := f) (fun c hc => ⟨(hb c hc).1, (hb c hc).2.1⟩) (fun c x hc hx => ⟨(hf (c, x) hc hx).1, (hf (c, x) hc hx).2.1⟩) (most.toNat + 1) 0 c0 ⟨of, [], 0, []⟩ [] hm.1 hc0 (rollX_new ho) rfl (fun t ht => absurd ht (Nat.not_lt_zero _)) rfl (fun y hy => by cases hy)
  generalize hFe : cmdsF b f (most.toNat + 1) ((0 : Nat) : Int) c0 ⟨of, [], 0, []⟩ [] = R at hF
  refine ⟨R.2, R.1, ⟨hF.2.1, hF.2.2⟩, hF.1, ?_⟩
  clear hF
  refine fnT C.spec_l7DrawCmds ?_
  refine run ?_
  refine r_loop_of (fun (s : CmS) => [(0, .ptr 0 [] 0), (1, .v (.int .i64 of)), (2, .v (.int .i64 most)), (7, .ptr 1 [] 0), (8, .ref 2 [] 0 s.o.length), (9, .v (.int .i64 s.n))]) (fun s => cmG l s) (fun s => (s.nw = true → s.x = ⟨of, [], 0, []⟩) ∧ (s.n : Int) ≤ most ∧ curP l s.c.1 ∧ rollX s.x ∧ s.x.of = of ∧ s.o.length = s.n ∧ cmdsF b f (most.toNat + 1 - s.n) s.n s.c s.x s.o = R) (fun s => most.toNat + 1 - s.n) ⟨0, true, c0, ⟨of, [], 0, []⟩, []⟩ [0, 1, 2] [] ⟨fun _ => rfl, hm.1, hc0, rollX_new ho, rfl, rfl, hFe⟩ Gc.of (fun s hs => ?_)
  obtain ⟨n, nw, c, x, o⟩ := s
  obtain ⟨hnw, hn, hc, hx, hxo, hol, hR⟩ := hs
  dsimp only at hnw hn hc hx hxo hol hR
  have hbc := hb c hc
  have hfx := hf ((b c).2, x) hbc.2.1 hx
  obtain ⟨m, hm1⟩ : ∃ m, most.toNat + 1 - n = m + 1 := ⟨most.toNat - n, by omega⟩
  rw [hm1, cmdsF] at hR
  have htx := rollX_tot hx
  have hsp := spec_RollApply 1 1 x.of x.rels x.act x.order (f ((b c).2, x)).1.kind (f ((b c).2, x)).1.rel (f ((b c).2, x)).1.node (f ((b c).2, x)).1.size (f ((b c).2, x)).1.dig (bnd_tot (by omega)) (by omega)
  have hap : applyP x.of x.rels x.act x.order (f ((b c).2, x)).1.kind (f ((b c).2, x)).1.rel (f ((b c).2, x)).1.node (f ((b c).2, x)).1.size (f ((b c).2, x)).1.dig = applyC x (f ((b c).2, x)).1 := rfl
  rw [hap] at hsp
  have hnx : rollX (nextX x (f ((b c).2, x)).1) ∧ (nextX x (f ((b c).2, x)).1).of = x.of := by
    unfold nextX
    split
    · rename_i h0
      have h1 := applyC_ok hx h0
      exact ⟨h1.1, by rw [h1.2.2, applyR_of]⟩
    · exact ⟨hx, rfl⟩
  have hnd : nextX x (f ((b c).2, x)).1 = if (applyC x (f ((b c).2, x)).1).2 = 0 then (applyC x (f ((b c).2, x)).1).1 else x := rfl
  generalize nextX x (f ((b c).2, x)).1 = X at *
  generalize applyC x (f ((b c).2, x)).1 = q at *
  generalize f ((b c).2, x) = z at *
  obtain ⟨y, c2⟩ := z
  generalize b c = w at *
  obtain ⟨v, c1⟩ := w
  obtain ⟨hvm, hc1, hbw⟩ := hbc
  obtain ⟨_, hc2, hfw⟩ := hfx
  dsimp only at hvm hc1 hbw hc2 hfw hR hsp hnd hnx
  dsimp only [rollT, rollS] at hsp
  have hback : ∀ (k : n < most.toNat + 1) (hlt : (n : Int) < v) (w : Bool), (w = true → X = ⟨of, [], 0, []⟩) → (w = true → X = ⟨of, [], 0, []⟩) ∧ ((n + 1 : Nat) : Int) ≤ most ∧ curP l c2.1 ∧ rollX X ∧ X.of = of ∧ (o ++ [y]).length = n + 1 ∧ cmdsF b f (most.toNat + 1 - (n + 1)) ((n + 1 : Nat) : Int) c2 X (o ++ [y]) = R := fun k hlt w hw => by
    rw [if_pos hlt] at hR
    rw [show most.toNat + 1 - (n + 1) = m by omega]
    exact ⟨hw, by omega, hc2, hnx.1, hnx.2.trans hxo, by rw [List.length_append, hol]; rfl, hR⟩
  cases nw with
  | true =>
    obtain rfl := hnw rfl
    dsimp only [cmG]
    simp only [List.length_nil, rowT_nil] at hfw hsp
    refine runC ?_
    refine r_call1p 0 hbw ?_
    refine run ?_
    refine r_ifd (fun hlt => ?_) (fun hlt => ?_)
    · refine runC ?_
      refine r_call1p 0 (hfw 0 0) ?_
      refine runC ?_
      refine r_callp true hsp ?_
      refine run ?_
      refine r_ifd (fun h0 => ?_) (fun h0 => ?_)
      · rw [if_pos h0] at hnd
        refine run ?_
        refine ⟨⟨n + 1, false, c2, X, o ++ [y]⟩, [0, 1, 5, 6, 7], [], Gc.of (hs := ?_), by dsimp only; omega, hback (by omega) hlt false (fun h => by cases h)⟩
        rw [hnd]
        dsimp only [cmG]
        (simp (disch := omega) only [go_sem, ↓reduceIte, Nat.reduceEqDiff, Nat.reduceMul, Nat.reduceAdd, Nat.reduceSub, Nat.reduceLT, Nat.reduceGT, Nat.reduceLeDiff, Nat.reduceBEq, Int.reduceLT, Int.reduceLE, Int.reduceNe, Int.reduceEq, Int.reduceToNat, Int.reduceAdd, Int.reduceSub, Int.reduceMul, Int.reduceNeg, Nat.reducePow, Int.reducePow, Nat.reduceSubDiff, decide_true, decide_false, reduceCtorEq, or_self, or_false, false_or, or_true, true_or, if_false, gt_iff_lt, ge_iff_le, ne_eq, not_true_eq_false, not_false_eq_true, and_self, beq_self_eq_true, Bool.false_eq_true, List.append_assoc]; exact WkS.refl _)
      · rw [if_neg h0] at hnd
        refine run ?_
        refine ⟨⟨n + 1, true, c2, X, o ++ [y]⟩, [0, 1, 5], [], Gc.of (hs := ?_), by dsimp only; omega, hback (by omega) hlt true (fun _ => hnd)⟩
        rw [hnd]
        dsimp only [cmG]
        (simp (disch := omega) only [go_sem, ↓reduceIte, Nat.reduceEqDiff, Nat.reduceMul, Nat.reduceAdd, Nat.reduceSub, Nat.reduceLT, Nat.reduceGT, Nat.reduceLeDiff, Nat.reduceBEq, Int.reduceLT, Int.reduceLE, Int.reduceNe, Int.reduceEq, Int.reduceToNat, Int.reduceAdd, Int.reduceSub, Int.reduceMul, Int.reduceNeg, Nat.reducePow, Int.reducePow, Nat.reduceSubDiff, decide_true, decide_false, reduceCtorEq, or_self, or_false, false_or, or_true, true_or, if_false, gt_iff_lt, ge_iff_le, ne_eq, not_true_eq_false, not_false_eq_true, and_self, beq_self_eq_true, Bool.false_eq_true, List.append_assoc]; exact WkS.refl _)
    · rw [if_neg hlt] at hR
      subst hR
      refine run ?_
      exact r_end [0, 2] []
  | false =>
    dsimp only [cmG]
    refine runC ?_
    refine r_call1p 0 hbw ?_
    refine run ?_
    refine r_ifd (fun hlt => ?_) (fun hlt => ?_)
    · refine runC ?_
      refine r_call1p 0 (hfw (tagE x.rels 1) (tagE x.order 1)) ?_ (ha := by simp (disch := omega) only [go_sem, ↓reduceIte, Nat.reduceEqDiff, Nat.reduceMul, Nat.reduceAdd, Nat.reduceSub, Nat.reduceLT, Nat.reduceGT, Nat.reduceLeDiff, Nat.reduceBEq, Int.reduceLT, Int.reduceLE, Int.reduceNe, Int.reduceEq, Int.reduceToNat, Int.reduceAdd, Int.reduceSub, Int.reduceMul, Int.reduceNeg, Nat.reducePow, Int.reducePow, Nat.reduceSubDiff, decide_true, decide_false, reduceCtorEq, or_self, or_false, false_or, or_true, true_or, if_false, gt_iff_lt, ge_iff_le, ne_eq, not_true_eq_false, not_false_eq_true, and_self, beq_self_eq_true, Bool.false_eq_true])
      refine runC ?_
      refine r_callp true hsp ?_
      refine run ?_
      refine r_ifd (fun h0 => ?_) (fun h0 => ?_)
      · rw [if_pos h0] at hnd
        refine run ?_
        refine ⟨⟨n + 1, false, c2, X, o ++ [y]⟩, [0, 1, 7, 8, 9], [], Gc.of (hs := ?_), by dsimp only; omega, hback (by omega) hlt false (fun h => by cases h)⟩
        rw [hnd]
        dsimp only [cmG]
        (simp (disch := omega) only [go_sem, ↓reduceIte, Nat.reduceEqDiff, Nat.reduceMul, Nat.reduceAdd, Nat.reduceSub, Nat.reduceLT, Nat.reduceGT, Nat.reduceLeDiff, Nat.reduceBEq, Int.reduceLT, Int.reduceLE, Int.reduceNe, Int.reduceEq, Int.reduceToNat, Int.reduceAdd, Int.reduceSub, Int.reduceMul, Int.reduceNeg, Nat.reducePow, Int.reducePow, Nat.reduceSubDiff, decide_true, decide_false, reduceCtorEq, or_self, or_false, false_or, or_true, true_or, if_false, gt_iff_lt, ge_iff_le, ne_eq, not_true_eq_false, not_false_eq_true, and_self, beq_self_eq_true, Bool.false_eq_true, List.append_assoc]; exact WkS.refl _)
      · rw [if_neg h0] at hnd
        refine run ?_
        refine ⟨⟨n + 1, false, c2, X, o ++ [y]⟩, [0, 1, 7, 3, 4], [], Gc.of (hs := ?_), by dsimp only; omega, hback (by omega) hlt false (fun h => by cases h)⟩
        rw [hnd]
        dsimp only [cmG]
        (simp (disch := omega) only [go_sem, ↓reduceIte, Nat.reduceEqDiff, Nat.reduceMul, Nat.reduceAdd, Nat.reduceSub, Nat.reduceLT, Nat.reduceGT, Nat.reduceLeDiff, Nat.reduceBEq, Int.reduceLT, Int.reduceLE, Int.reduceNe, Int.reduceEq, Int.reduceToNat, Int.reduceAdd, Int.reduceSub, Int.reduceMul, Int.reduceNeg, Nat.reducePow, Int.reducePow, Nat.reduceSubDiff, decide_true, decide_false, reduceCtorEq, or_self, or_false, false_or, or_true, true_or, if_false, gt_iff_lt, ge_iff_le, ne_eq, not_true_eq_false, not_false_eq_true, and_self, beq_self_eq_true, Bool.false_eq_true, List.append_assoc]; exact WkS.refl _)
    · rw [if_neg hlt] at hR
      subst hR
      refine run ?_
      exact r_end [0, 2] []

end Go.TL
