/- Rels, rolls, rafts: printed by a program of this work. No conditions but those that are written. -/
import Derived.Test.YthkahdjgkcccgaaE1
namespace Go.TL
set_option linter.unusedSimpArgs false
open Go.Proofs Go.RowKit
attribute [local irreducible] wpOpsT wpT EndT Ex.seq Ex.block W

structure RelV where
  no : Int
  size : Int
  dig : ByteArray
  ready : List Int
  state : Int
instance : Inhabited RelV := ⟨⟨0, 0, ⟨#[]⟩, [], 0⟩⟩
def relC (x : RelV) : List T := [.v (.int .i64 x.no), .v (.int .i64 x.size), .v (.string x.dig), .sl false 0 x.ready.length 1 (rowT i64C x.ready), .v (.int .i64 x.state)]
instance : RowE relC 5 := ⟨⟨fun _ => rfl, fun _ => rfl⟩⟩
instance : RowF relC := ⟨fun _ => rfl⟩
attribute [go_sem] relC
def totRel (dig : ByteArray) (ready : List Int) : Int := (dig.size : Int) + totIS ready
def bndRel (dig : ByteArray) (ready : List Int) : Prop := dig.size ≤ 140737488351232 ∧ bndIS ready
theorem totRel_nn (dig : ByteArray) (ready : List Int) : 0 ≤ totRel dig ready := by
  have h1 := totIS_nn ready
  unfold totRel; omega
def totRelV (x : RelV) : Int := totRel x.dig x.ready
def bndRelV (x : RelV) : Prop := bndRel x.dig x.ready
theorem totRelV_nn (x : RelV) : 0 ≤ totRelV x := totRel_nn x.dig x.ready

set_option maxHeartbeats 4000000 in
theorem laws_szRel (k0 : Nat) (no : Int) (size : Int) (dig : ByteArray) (ready : List Int) (state : Int) (left : Int) (hpre : bndRel dig ready ∧ 0 ≤ left ∧ left ≤ 1048576) : CallsT Try.prog [] F.laws_szRel [.agg [.v (.int .i64 no), .v (.int .i64 size), .v (.string dig), .sl false k0 ready.length 1 (rowT i64C ready), .v (.int .i64 state)], .v (.int .i64 left)] (.v (.int .i64 (cutI (left - totRel dig ready)))) [] := by
  refine fnT C.laws_szRel ?_
  obtain ⟨hb, hl0, hl1⟩ := hpre
  obtain ⟨hb0, hb1⟩ := hb
  have hn0 : 0 ≤ (dig.size : Int) := by omega
  have hn1 : 0 ≤ totIS ready := totIS_nn ready
  refine run ?_
  refine r_ifd (fun h => ?_) (fun h => ?_)
  · rw [show cutI (left - totRel dig ready) = -1 from if_pos (by unfold totRel; omega)]
    refine run ?_
    exact r_end [] []
  refine run ?_
  refine r_ifd (fun h => ?_) (fun h => ?_)
  · have h := cutI_neg h; rw [show cutI (left - totRel dig ready) = -1 from if_pos (by unfold totRel; omega)]
    refine run ?_
    exact r_end [] []
  obtain ⟨e1, h⟩ := cutI_nn h
  rw [e1]
  rw [show cutI (left - totRel dig ready) = left - (dig.size : Int) - totIS ready by unfold cutI totRel; rw [if_neg (by omega)] <;> omega]
  refine run ?_
  exact r_end [] []
instance (k0 : Nat) (no : Int) (size : Int) (dig : ByteArray) (ready : List Int) (state : Int) (left : Int) : Con Try.prog F.laws_szRel [.agg [.v (.int .i64 no), .v (.int .i64 size), .v (.string dig), .sl false k0 ready.length 1 (rowT i64C ready), .v (.int .i64 state)], .v (.int .i64 left)] (bndRel dig ready ∧ 0 ≤ left ∧ left ≤ 1048576) (.v (.int .i64 (cutI (left - totRel dig ready)))) [] := ⟨fun h => laws_szRel k0 no size dig ready state left h⟩

set_option maxHeartbeats 4000000 in
theorem laws_toRel (k0 : Nat) (no : Int) (size : Int) (dig : ByteArray) (ready : List Int) (state : Int) (hpre : bndRel dig ready) : CallsT Try.prog [] F.laws_toRel [.agg [.v (.int .i64 no), .v (.int .i64 size), .v (.string dig), .sl false k0 ready.length 1 (rowT i64C ready), .v (.int .i64 state)]] (.agg [.v (.int .i64 no), .v (.int .i64 size), .v (.string dig), .sl false 0 ready.length 1 (rowT i64C ready), .v (.int .i64 state)]) [] := by
  refine fnT C.laws_toRel ?_
  obtain ⟨hb0, hb1⟩ := hpre
  refine run ?_
  exact r_end [] []
instance (k0 : Nat) (no : Int) (size : Int) (dig : ByteArray) (ready : List Int) (state : Int) : Con Try.prog F.laws_toRel [.agg [.v (.int .i64 no), .v (.int .i64 size), .v (.string dig), .sl false k0 ready.length 1 (rowT i64C ready), .v (.int .i64 state)]] (bndRel dig ready) (.agg [.v (.int .i64 no), .v (.int .i64 size), .v (.string dig), .sl false 0 ready.length 1 (rowT i64C ready), .v (.int .i64 state)]) [] := ⟨fun h => laws_toRel k0 no size dig ready state h⟩

set_option maxHeartbeats 4000000 in
theorem laws_eqRel (k0 : Nat) (q0 : Nat) (no : Int) (size : Int) (dig : ByteArray) (ready : List Int) (state : Int) (hpre : bndRel dig ready) : CallsT Try.prog [] F.laws_eqRel [.agg [.v (.int .i64 no), .v (.int .i64 size), .v (.string dig), .sl false k0 ready.length 1 (rowT i64C ready), .v (.int .i64 state)], .agg [.v (.int .i64 no), .v (.int .i64 size), .v (.string dig), .sl false q0 ready.length 1 (rowT i64C ready), .v (.int .i64 state)]] (.v (.bool true)) [] := by
  refine fnT C.laws_eqRel ?_
  obtain ⟨hb0, hb1⟩ := hpre
  refine run ?_
  exact r_end [] []
instance (k0 : Nat) (q0 : Nat) (no : Int) (size : Int) (dig : ByteArray) (ready : List Int) (state : Int) : Con Try.prog F.laws_eqRel [.agg [.v (.int .i64 no), .v (.int .i64 size), .v (.string dig), .sl false k0 ready.length 1 (rowT i64C ready), .v (.int .i64 state)], .agg [.v (.int .i64 no), .v (.int .i64 size), .v (.string dig), .sl false q0 ready.length 1 (rowT i64C ready), .v (.int .i64 state)]] (bndRel dig ready) (.v (.bool true)) [] := ⟨fun h => laws_eqRel k0 q0 no size dig ready state h⟩

def totRelS (l : List RelV) : Int := l.length + sumI totRelV l
def bndRelS (l : List RelV) : Prop := l.length * 64 ≤ 140737488351232 ∧ ∀ x ∈ l, bndRelV x
theorem totRelS_nn (l : List RelV) : 0 ≤ totRelS l := by have := sum_nn totRelV_nn l; unfold totRelS; omega

set_option maxHeartbeats 4000000 in
theorem laws_szRelS (k : Nat) (l : List RelV) (left : Int) (hpre : bndRelS l ∧ 0 ≤ left ∧ left ≤ 1048576) : CallsT Try.prog [] F.laws_szRelS [.sl false k l.length 5 (rowT relC l), .v (.int .i64 left)] (.v (.int .i64 (cutI (left - totRelS l)))) [] := by
  refine fnT C.laws_szRelS ?_
  obtain ⟨⟨hb1, hb2⟩, h0, h1⟩ := hpre
  have hn := sum_nn totRelV_nn l
  refine run ?_
  refine r_ifd (fun h => ?_) (fun h => ?_)
  · rw [show cutI (left - totRelS l) = -1 from if_pos (by unfold totRelS; omega)]
    refine run ?_
    exact r_end [] []
  refine run ?_
  refine r_for l.length (fun i => [(0, .sl false k l.length 5 (rowT relC l)), (1, .v (.int .i64 (left - l.length - sumI totRelV (l.take i)))), (5, .v (.int .i64 i))]) (fun _ => []) (fun i => 0 ≤ left - l.length - sumI totRelV (l.take i)) [] [] (by simp [sumI]; omega) Gc.of (fun i hi hv => ?_) (fun hv => ?_)
  · have hs := sum_take totRelV hi
    have hs0 := sum_nn totRelV_nn (l.take i)
    have hs1 : bndRel (nth l i).dig (nth l i).ready := hb2 _ (nth_mem hi)
    have hs2 := sum_le totRelV_nn l (i + 1)
    have hs3 : totRel (nth l i).dig (nth l i).ready = totRelV (nth l i) := rfl
    refine run ?_
    have e : left - l.length - sumI totRelV (l.take i) - totRelV (nth l i) = left - l.length - sumI totRelV (l.take (i + 1)) := by omega
    rw [hs3, e]
    refine r_ifd (fun h => ?_) (fun h => ?_)
    · have h := cutI_neg h
      rw [show cutI (left - totRelS l) = -1 from if_pos (by unfold totRelS; omega)]
      refine run ?_
      exact r_end [] []
    · obtain ⟨e1, h2⟩ := cutI_nn h
      rw [e1]
      refine run ?_
      exact ⟨[], [], Gc.of, h2⟩
  · rw [show cutI (left - totRelS l) = left - l.length - sumI totRelV (l.take l.length) by rw [List.take_length] at *; unfold cutI totRelS; rw [if_neg (by omega)] <;> omega]
    refine run ?_
    exact r_end [] []
instance (k : Nat) (l : List RelV) (left : Int) : Con Try.prog F.laws_szRelS [.sl false k l.length 5 (rowT relC l), .v (.int .i64 left)] (bndRelS l ∧ 0 ≤ left ∧ left ≤ 1048576) (.v (.int .i64 (cutI (left - totRelS l)))) [] := ⟨fun h => laws_szRelS k l left h⟩

def zRelC (_ : Unit) : List T := [.v (.int .i64 0), .v (.int .i64 0), .v (.string ⟨#[]⟩), .v (.slice none 0 0), .v (.int .i64 0)]
instance : RowE zRelC 5 := ⟨⟨fun _ => rfl, fun _ => rfl⟩⟩
@[go_sem] theorem mkR_rel (n : Nat) : mkR [.v (.int .i64 0), .v (.int .i64 0), .v (.string ⟨#[]⟩), .v (.slice none 0 0), .v (.int .i64 0)] n = ((List.replicate n ()).length, rowT zRelC (List.replicate n ())) := mkR_enc zRelC () n
theorem wk_rel (n : Nat) : Wks (rowT zRelC (List.replicate n ())) (rowT relC (List.replicate n default)) := by
  have := Wks.row (e1 := zRelC) (e2 := relC) (fun _ => (default : RelV)) (fun _ => .cons (.refl _) (.cons (.refl _) (.cons (.refl _) (.cons (.nil _ _) (.cons (.refl _) .nil))))) (List.replicate n ())
  rwa [List.map_replicate] at this

set_option maxHeartbeats 4000000 in
theorem laws_toRelS (k : Nat) (l : List RelV) (hpre : bndRelS l) : CallsT Try.prog [] F.laws_toRelS [.sl false k l.length 5 (rowT relC l)] (.sl false 0 l.length 5 (rowT relC l)) [] := by
  refine fnT C.laws_toRelS ?_
  obtain ⟨hb1, hb2⟩ := hpre
  have hwk := wk_rel l.length
  refine run ?_
  rw [Int.toNat_natCast, List.length_replicate]
  refine r_for l.length (fun i => [(0, .sl false k l.length 5 (rowT relC l)), (3, .ref 0 [] 0 l.length), (4, .v (.int .i64 i))]) (fun i => [⟨5, true, rowT relC (l.take i ++ (List.replicate l.length default).drop i)⟩]) (fun _ => True) [0] [] trivial Gc.of (fun i hi _ => ?_) (fun _ => ?_)
  · have hs1 : bndRel (nth l i).dig (nth l i).ready := hb2 _ (nth_mem hi)
    refine run ?_
    refine r_sto (enc := relC) _ i (nth l i) ?_
    rw [set_mix hi (by simp)]
    refine run ?_
    exact ⟨[0], [], Gc.of, trivial⟩
  · rw [List.take_length, List.drop_of_length_le (by simp), List.append_nil]
    refine run ?_
    exact r_end [] [0]
instance (k : Nat) (l : List RelV) : Con Try.prog F.laws_toRelS [.sl false k l.length 5 (rowT relC l)] (bndRelS l) (.sl false 0 l.length 5 (rowT relC l)) [] := ⟨fun h => laws_toRelS k l h⟩

set_option maxHeartbeats 4000000 in
theorem laws_eqRelS (k k2 : Nat) (l : List RelV) (hpre : bndRelS l) : CallsT Try.prog [] F.laws_eqRelS [.sl false k l.length 5 (rowT relC l), .sl false k2 l.length 5 (rowT relC l)] (.v (.bool true)) [] := by
  refine fnT C.laws_eqRelS ?_
  obtain ⟨hb1, hb2⟩ := hpre
  refine run ?_
  refine r_for l.length (fun i => [(0, .sl false k l.length 5 (rowT relC l)), (1, .sl false k2 l.length 5 (rowT relC l)), (5, .v (.int .i64 i))]) (fun _ => []) (fun _ => True) [] [] trivial Gc.of (fun i hi _ => ?_) (fun _ => ?_)
  · have hs1 : bndRel (nth l i).dig (nth l i).ready := hb2 _ (nth_mem hi)
    refine run ?_
    exact ⟨[], [], Gc.of, trivial⟩
  · refine run ?_
    exact r_end [] []
instance (k k2 : Nat) (l : List RelV) : Con Try.prog F.laws_eqRelS [.sl false k l.length 5 (rowT relC l), .sl false k2 l.length 5 (rowT relC l)] (bndRelS l) (.v (.bool true)) [] := ⟨fun h => laws_eqRelS k k2 l h⟩

structure RollV where
  of : Int
  rels : List RelV
  act : Int
  order : List Int
instance : Inhabited RollV := ⟨⟨0, [], 0, []⟩⟩
def rollC (x : RollV) : List T := [.v (.int .i64 x.of), .sl false 0 x.rels.length 5 (rowT relC x.rels), .v (.int .i64 x.act), .sl false 0 x.order.length 1 (rowT i64C x.order)]
instance : RowE rollC 4 := ⟨⟨fun _ => rfl, fun _ => rfl⟩⟩
instance : RowF rollC := ⟨fun _ => rfl⟩
attribute [go_sem] rollC
def totRoll (rels : List RelV) (order : List Int) : Int := totRelS rels + totIS order
def bndRoll (rels : List RelV) (order : List Int) : Prop := bndRelS rels ∧ bndIS order
theorem totRoll_nn (rels : List RelV) (order : List Int) : 0 ≤ totRoll rels order := by
  have h0 := totRelS_nn rels
  have h1 := totIS_nn order
  unfold totRoll; omega
def totRollV (x : RollV) : Int := totRoll x.rels x.order
def bndRollV (x : RollV) : Prop := bndRoll x.rels x.order
theorem totRollV_nn (x : RollV) : 0 ≤ totRollV x := totRoll_nn x.rels x.order

set_option maxHeartbeats 4000000 in
theorem laws_szRoll (k0 : Nat) (k1 : Nat) (of : Int) (rels : List RelV) (act : Int) (order : List Int) (left : Int) (hpre : bndRoll rels order ∧ 0 ≤ left ∧ left ≤ 1048576) : CallsT Try.prog [] F.laws_szRoll [.agg [.v (.int .i64 of), .sl false k0 rels.length 5 (rowT relC rels), .v (.int .i64 act), .sl false k1 order.length 1 (rowT i64C order)], .v (.int .i64 left)] (.v (.int .i64 (cutI (left - totRoll rels order)))) [] := by
  refine fnT C.laws_szRoll ?_
  obtain ⟨hb, hl0, hl1⟩ := hpre
  obtain ⟨hb0, hb1⟩ := hb
  have hn0 : 0 ≤ totRelS rels := totRelS_nn rels
  have hn1 : 0 ≤ totIS order := totIS_nn order
  refine run ?_
  refine r_ifd (fun h => ?_) (fun h => ?_)
  · have h := cutI_neg h; rw [show cutI (left - totRoll rels order) = -1 from if_pos (by unfold totRoll; omega)]
    refine run ?_
    exact r_end [] []
  obtain ⟨e0, h⟩ := cutI_nn h
  rw [e0]
  refine run ?_
  refine r_ifd (fun h => ?_) (fun h => ?_)
  · have h := cutI_neg h; rw [show cutI (left - totRoll rels order) = -1 from if_pos (by unfold totRoll; omega)]
    refine run ?_
    exact r_end [] []
  obtain ⟨e1, h⟩ := cutI_nn h
  rw [e1]
  rw [show cutI (left - totRoll rels order) = left - totRelS rels - totIS order by unfold cutI totRoll; rw [if_neg (by omega)] <;> omega]
  refine run ?_
  exact r_end [] []
instance (k0 : Nat) (k1 : Nat) (of : Int) (rels : List RelV) (act : Int) (order : List Int) (left : Int) : Con Try.prog F.laws_szRoll [.agg [.v (.int .i64 of), .sl false k0 rels.length 5 (rowT relC rels), .v (.int .i64 act), .sl false k1 order.length 1 (rowT i64C order)], .v (.int .i64 left)] (bndRoll rels order ∧ 0 ≤ left ∧ left ≤ 1048576) (.v (.int .i64 (cutI (left - totRoll rels order)))) [] := ⟨fun h => laws_szRoll k0 k1 of rels act order left h⟩

set_option maxHeartbeats 4000000 in
theorem laws_toRoll (k0 : Nat) (k1 : Nat) (of : Int) (rels : List RelV) (act : Int) (order : List Int) (hpre : bndRoll rels order) : CallsT Try.prog [] F.laws_toRoll [.agg [.v (.int .i64 of), .sl false k0 rels.length 5 (rowT relC rels), .v (.int .i64 act), .sl false k1 order.length 1 (rowT i64C order)]] (.agg [.v (.int .i64 of), .sl false 0 rels.length 5 (rowT relC rels), .v (.int .i64 act), .sl false 0 order.length 1 (rowT i64C order)]) [] := by
  refine fnT C.laws_toRoll ?_
  obtain ⟨hb0, hb1⟩ := hpre
  refine run ?_
  exact r_end [] []
instance (k0 : Nat) (k1 : Nat) (of : Int) (rels : List RelV) (act : Int) (order : List Int) : Con Try.prog F.laws_toRoll [.agg [.v (.int .i64 of), .sl false k0 rels.length 5 (rowT relC rels), .v (.int .i64 act), .sl false k1 order.length 1 (rowT i64C order)]] (bndRoll rels order) (.agg [.v (.int .i64 of), .sl false 0 rels.length 5 (rowT relC rels), .v (.int .i64 act), .sl false 0 order.length 1 (rowT i64C order)]) [] := ⟨fun h => laws_toRoll k0 k1 of rels act order h⟩

set_option maxHeartbeats 4000000 in
theorem laws_eqRoll (k0 : Nat) (k1 : Nat) (q0 : Nat) (q1 : Nat) (of : Int) (rels : List RelV) (act : Int) (order : List Int) (hpre : bndRoll rels order) : CallsT Try.prog [] F.laws_eqRoll [.agg [.v (.int .i64 of), .sl false k0 rels.length 5 (rowT relC rels), .v (.int .i64 act), .sl false k1 order.length 1 (rowT i64C order)], .agg [.v (.int .i64 of), .sl false q0 rels.length 5 (rowT relC rels), .v (.int .i64 act), .sl false q1 order.length 1 (rowT i64C order)]] (.v (.bool true)) [] := by
  refine fnT C.laws_eqRoll ?_
  obtain ⟨hb0, hb1⟩ := hpre
  refine run ?_
  exact r_end [] []
instance (k0 : Nat) (k1 : Nat) (q0 : Nat) (q1 : Nat) (of : Int) (rels : List RelV) (act : Int) (order : List Int) : Con Try.prog F.laws_eqRoll [.agg [.v (.int .i64 of), .sl false k0 rels.length 5 (rowT relC rels), .v (.int .i64 act), .sl false k1 order.length 1 (rowT i64C order)], .agg [.v (.int .i64 of), .sl false q0 rels.length 5 (rowT relC rels), .v (.int .i64 act), .sl false q1 order.length 1 (rowT i64C order)]] (bndRoll rels order) (.v (.bool true)) [] := ⟨fun h => laws_eqRoll k0 k1 q0 q1 of rels act order h⟩

structure RaftV where
  id : Int
  of : Int
  role : Int
  commit : Int
  hard : HardV
  yes : List Int
  next : List Int
  mtch : List Int
instance : Inhabited RaftV := ⟨⟨0, 0, 0, 0, default, [], [], []⟩⟩
def raftC (x : RaftV) : List T := [.v (.int .i64 x.id), .v (.int .i64 x.of), .v (.int .i64 x.role), .v (.int .i64 x.commit), .v (.int .i64 x.hard.term), .v (.int .i64 x.hard.vote), .sl false 0 x.hard.log.length 6 (rowT entryC x.hard.log), .sl false 0 x.yes.length 1 (rowT i64C x.yes), .sl false 0 x.next.length 1 (rowT i64C x.next), .sl false 0 x.mtch.length 1 (rowT i64C x.mtch)]
instance : RowE raftC 10 := ⟨⟨fun _ => rfl, fun _ => rfl⟩⟩
instance : RowF raftC := ⟨fun _ => rfl⟩
attribute [go_sem] raftC
def totRaft (hard_log : List EntryV) (yes : List Int) (next : List Int) (mtch : List Int) : Int := totHard hard_log + totIS yes + totIS next + totIS mtch
def bndRaft (hard_log : List EntryV) (yes : List Int) (next : List Int) (mtch : List Int) : Prop := bndHard hard_log ∧ bndIS yes ∧ bndIS next ∧ bndIS mtch
theorem totRaft_nn (hard_log : List EntryV) (yes : List Int) (next : List Int) (mtch : List Int) : 0 ≤ totRaft hard_log yes next mtch := by
  have h0 := totHard_nn hard_log
  have h1 := totIS_nn yes
  have h2 := totIS_nn next
  have h3 := totIS_nn mtch
  unfold totRaft; omega
def totRaftV (x : RaftV) : Int := totRaft x.hard.log x.yes x.next x.mtch
def bndRaftV (x : RaftV) : Prop := bndRaft x.hard.log x.yes x.next x.mtch
theorem totRaftV_nn (x : RaftV) : 0 ≤ totRaftV x := totRaft_nn x.hard.log x.yes x.next x.mtch

set_option maxHeartbeats 4000000 in
theorem laws_eqRaft (k0 : Nat) (k1 : Nat) (k2 : Nat) (k3 : Nat) (q0 : Nat) (q1 : Nat) (q2 : Nat) (q3 : Nat) (id : Int) (of : Int) (role : Int) (commit : Int) (hard_term : Int) (hard_vote : Int) (hard_log : List EntryV) (yes : List Int) (next : List Int) (mtch : List Int) (hpre : bndRaft hard_log yes next mtch) : CallsT Try.prog [] F.laws_eqRaft [.agg [.v (.int .i64 id), .v (.int .i64 of), .v (.int .i64 role), .v (.int .i64 commit), .v (.int .i64 hard_term), .v (.int .i64 hard_vote), .sl false k0 hard_log.length 6 (rowT entryC hard_log), .sl false k1 yes.length 1 (rowT i64C yes), .sl false k2 next.length 1 (rowT i64C next), .sl false k3 mtch.length 1 (rowT i64C mtch)], .agg [.v (.int .i64 id), .v (.int .i64 of), .v (.int .i64 role), .v (.int .i64 commit), .v (.int .i64 hard_term), .v (.int .i64 hard_vote), .sl false q0 hard_log.length 6 (rowT entryC hard_log), .sl false q1 yes.length 1 (rowT i64C yes), .sl false q2 next.length 1 (rowT i64C next), .sl false q3 mtch.length 1 (rowT i64C mtch)]] (.v (.bool true)) [] := by
  refine fnT C.laws_eqRaft ?_
  obtain ⟨hb0, hb1, hb2, hb3⟩ := hpre
  refine run ?_
  exact r_end [] []
instance (k0 : Nat) (k1 : Nat) (k2 : Nat) (k3 : Nat) (q0 : Nat) (q1 : Nat) (q2 : Nat) (q3 : Nat) (id : Int) (of : Int) (role : Int) (commit : Int) (hard_term : Int) (hard_vote : Int) (hard_log : List EntryV) (yes : List Int) (next : List Int) (mtch : List Int) : Con Try.prog F.laws_eqRaft [.agg [.v (.int .i64 id), .v (.int .i64 of), .v (.int .i64 role), .v (.int .i64 commit), .v (.int .i64 hard_term), .v (.int .i64 hard_vote), .sl false k0 hard_log.length 6 (rowT entryC hard_log), .sl false k1 yes.length 1 (rowT i64C yes), .sl false k2 next.length 1 (rowT i64C next), .sl false k3 mtch.length 1 (rowT i64C mtch)], .agg [.v (.int .i64 id), .v (.int .i64 of), .v (.int .i64 role), .v (.int .i64 commit), .v (.int .i64 hard_term), .v (.int .i64 hard_vote), .sl false q0 hard_log.length 6 (rowT entryC hard_log), .sl false q1 yes.length 1 (rowT i64C yes), .sl false q2 next.length 1 (rowT i64C next), .sl false q3 mtch.length 1 (rowT i64C mtch)]] (bndRaft hard_log yes next mtch) (.v (.bool true)) [] := ⟨fun h => laws_eqRaft k0 k1 k2 k3 q0 q1 q2 q3 id of role commit hard_term hard_vote hard_log yes next mtch h⟩

end Go.TL
