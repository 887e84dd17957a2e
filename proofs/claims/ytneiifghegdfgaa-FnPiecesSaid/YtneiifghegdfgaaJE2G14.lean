/- Texts joined. No conditions but those that are written. -/
import Derived.Test.YtneiifghegdfgaaE1
import Derived.Test.YtneiifghegdfgaaJG1G0
import Derived.Test.YtneiifghegdfgaaJS1S7
import Derived.Test.YtneiifghegdfgaaJP2P3
/- Rels, rolls, rafts: printed by a program of this work. No conditions but those that are written. -/
namespace Go.TL
set_option linter.unusedSimpArgs false
open Go.Proofs Go.RowKit
attribute [local irreducible] wpOpsT wpT EndT Ex.seq Ex.block W

structure RelV where
  no : Int
  size : Int
  dig : ByteArray
  ready : List Int
  state : Int
instance : Inhabited RelV := ⟨⟨0, 0, ⟨#[]⟩, [], 0⟩⟩
def relC (x : RelV) : List T := [.v (.int .i64 x.no), .v (.int .i64 x.size), .v (.string x.dig), .sl false 0 x.ready.length 1 (rowT i64C x.ready), .v (.int .i64 x.state)]
instance : RowE relC 5 := ⟨⟨fun _ => rfl, fun _ => rfl⟩⟩
instance : RowF relC := ⟨fun _ => rfl⟩
attribute [go_sem] relC
def totRel (dig : ByteArray) (ready : List Int) : Int := (dig.size : Int) + totIS ready
def bndRel (dig : ByteArray) (ready : List Int) : Prop := dig.size ≤ 140737488351232 ∧ bndIS ready
theorem totRel_nn (dig : ByteArray) (ready : List Int) : 0 ≤ totRel dig ready := by
  have h1 := totIS_nn ready
  unfold totRel; omega
def totRelV (x : RelV) : Int := totRel x.dig x.ready
def bndRelV (x : RelV) : Prop := bndRel x.dig x.ready
theorem totRelV_nn (x : RelV) : 0 ≤ totRelV x := totRel_nn x.dig x.ready

def totRelS (l : List RelV) : Int := l.length + sumI totRelV l
def bndRelS (l : List RelV) : Prop := l.length * 64 ≤ 140737488351232 ∧ ∀ x ∈ l, bndRelV x
theorem totRelS_nn (l : List RelV) : 0 ≤ totRelS l := by have := sum_nn totRelV_nn l; unfold totRelS; omega

def zRelC (_ : Unit) : List T := [.v (.int .i64 0), .v (.int .i64 0), .v (.string ⟨#[]⟩), .v (.slice none 0 0), .v (.int .i64 0)]
instance : RowE zRelC 5 := ⟨⟨fun _ => rfl, fun _ => rfl⟩⟩
@[go_sem] theorem mkR_rel (n : Nat) : mkR [.v (.int .i64 0), .v (.int .i64 0), .v (.string ⟨#[]⟩), .v (.slice none 0 0), .v (.int .i64 0)] n = ((List.replicate n ()).length, rowT zRelC (List.replicate n ())) := mkR_enc zRelC () n
theorem wk_rel (n : Nat) : Wks (rowT zRelC (List.replicate n ())) (rowT relC (List.replicate n default)) := by
  have := Wks.row (e1 := zRelC) (e2 := relC) (fun _ => (default : RelV)) (fun _ => .cons (.refl _) (.cons (.refl _) (.cons (.refl _) (.cons (.nil _ _) (.cons (.refl _) .nil))))) (List.replicate n ())
  rwa [List.map_replicate] at this

structure RollV where
  of : Int
  rels : List RelV
  act : Int
  order : List Int
instance : Inhabited RollV := ⟨⟨0, [], 0, []⟩⟩
def rollC (x : RollV) : List T := [.v (.int .i64 x.of), .sl false 0 x.rels.length 5 (rowT relC x.rels), .v (.int .i64 x.act), .sl false 0 x.order.length 1 (rowT i64C x.order)]
instance : RowE rollC 4 := ⟨⟨fun _ => rfl, fun _ => rfl⟩⟩
instance : RowF rollC := ⟨fun _ => rfl⟩
attribute [go_sem] rollC
def totRoll (rels : List RelV) (order : List Int) : Int := totRelS rels + totIS order
def bndRoll (rels : List RelV) (order : List Int) : Prop := bndRelS rels ∧ bndIS order
theorem totRoll_nn (rels : List RelV) (order : List Int) : 0 ≤ totRoll rels order := by
  have h0 := totRelS_nn rels
  have h1 := totIS_nn order
  unfold totRoll; omega
def totRollV (x : RollV) : Int := totRoll x.rels x.order
def bndRollV (x : RollV) : Prop := bndRoll x.rels x.order
theorem totRollV_nn (x : RollV) : 0 ≤ totRollV x := totRoll_nn x.rels x.order

structure RaftV where
  id : Int
  of : Int
  role : Int
  commit : Int
  hard : HardV
  yes : List Int
  next : List Int
  mtch : List Int
instance : Inhabited RaftV := ⟨⟨0, 0, 0, 0, default, [], [], []⟩⟩
def raftC (x : RaftV) : List T := [.v (.int .i64 x.id), .v (.int .i64 x.of), .v (.int .i64 x.role), .v (.int .i64 x.commit), .v (.int .i64 x.hard.term), .v (.int .i64 x.hard.vote), .sl false 0 x.hard.log.length 6 (rowT entryC x.hard.log), .sl false 0 x.yes.length 1 (rowT i64C x.yes), .sl false 0 x.next.length 1 (rowT i64C x.next), .sl false 0 x.mtch.length 1 (rowT i64C x.mtch)]
instance : RowE raftC 10 := ⟨⟨fun _ => rfl, fun _ => rfl⟩⟩
instance : RowF raftC := ⟨fun _ => rfl⟩
attribute [go_sem] raftC
def totRaft (hard_log : List EntryV) (yes : List Int) (next : List Int) (mtch : List Int) : Int := totHard hard_log + totIS yes + totIS next + totIS mtch
def bndRaft (hard_log : List EntryV) (yes : List Int) (next : List Int) (mtch : List Int) : Prop := bndHard hard_log ∧ bndIS yes ∧ bndIS next ∧ bndIS mtch
theorem totRaft_nn (hard_log : List EntryV) (yes : List Int) (next : List Int) (mtch : List Int) : 0 ≤ totRaft hard_log yes next mtch := by
  have h0 := totHard_nn hard_log
  have h1 := totIS_nn yes
  have h2 := totIS_nn next
  have h3 := totIS_nn mtch
  unfold totRaft; omega
def totRaftV (x : RaftV) : Int := totRaft x.hard.log x.yes x.next x.mtch
def bndRaftV (x : RaftV) : Prop := bndRaft x.hard.log x.yes x.next x.mtch
theorem totRaftV_nn (x : RaftV) : 0 ≤ totRaftV x := totRaft_nn x.hard.log x.yes x.next x.mtch

end Go.TL

/- Rows of commands: printed by a program of this work. No conditions but those that are written. -/
namespace Go.TL
set_option linter.unusedSimpArgs false
open Go.Proofs Go.RowKit
attribute [local irreducible] wpOpsT wpT EndT Ex.seq Ex.block W

def totCmdS (l : List CmdV) : Int := l.length + sumI totCmdV l
def bndCmdS (l : List CmdV) : Prop := l.length * 48 ≤ 140737488351232 ∧ ∀ x ∈ l, bndCmdV x
theorem totCmdS_nn (l : List CmdV) : 0 ≤ totCmdS l := by have := sum_nn totCmdV_nn l; unfold totCmdS; omega

@[go_sem] theorem mkR_cmd (n : Nat) : mkR [.v (.int .i64 0), .v (.int .i64 0), .v (.int .i64 0), .v (.int .i64 0), .v (.string ⟨#[]⟩)] n = ((List.replicate n (default : CmdV)).length, rowT cmdC (List.replicate n default)) := mkR_enc cmdC default n

end Go.TL

/- What is drawn of commands: that there is a value and a place of the cursor, whatever the bytes. No conditions but those that are written. -/
namespace Go.TL
set_option linter.unusedSimpArgs false
open Go.Proofs Go.RowKit
attribute [local irreducible] wpOpsT wpT EndT Ex.seq Ex.block W

/-- A row of one, as a row. -/
def lit1 (x : Int) : List Int := [x]
theorem lit1_len (x : Int) : (lit1 x).length = 1 := rfl

end Go.TL

/- What is drawn of texts and of helds: that there is a value and a place of the cursor, whatever the bytes. No conditions but those that are written. -/
namespace Go.TL
set_option linter.unusedSimpArgs false
open Go.Proofs Go.RowKit
attribute [local irreducible] wpOpsT wpT EndT Ex.seq Ex.block W

/-- Bytes that are drawn one behind the other. -/
def bytesF (l : List Int) (c : Int × Int) : Nat → List Int × (Int × Int)
  | 0 => ([], c)
  | n + 1 => ((bytesF l c n).1 ++ [drawB l (bytesF l c n).2.1 (bytesF l c n).2.2], (drawN l (bytesF l c n).2.1, stepSt (bytesF l c n).2.2))
theorem bytesF_ok {l : List Int} {c : Int × Int} (h : curP l c.1) : ∀ n, curP l (bytesF l c n).2.1 ∧ (bytesF l c n).1.length = n ∧ ∀ x ∈ (bytesF l c n).1, 0 ≤ x ∧ x < 256
  | 0 => ⟨h, rfl, fun x hx => by cases hx⟩
  | n + 1 => by
    obtain ⟨h1, h2, h3⟩ := bytesF_ok h n
    refine ⟨cur_next h1, by rw [bytesF, List.length_append, h2]; rfl, fun x hx => ?_⟩
    rw [bytesF] at hx
    rcases List.mem_append.1 hx with hx | hx
    · exact h3 x hx
    · rw [List.mem_singleton.1 hx]
      have := drawB_b l (bytesF l c n).2.1 (bytesF l c n).2.2
      omega

set_option linter.unusedSimpArgs false in
theorem bytes_ex (l : List Int) (c : Int × Int) (most : Int) (hc : curP l c.1) (hm : 0 ≤ most ∧ most ≤ 1000) : ∃ (xs : List Int) (c' : Int × Int), ((xs.length : Int) ≤ most ∧ ∀ x ∈ xs, 0 ≤ x ∧ x < 256) ∧ curP l c'.1 ∧ CallsT Try.prog [⟨0, true, [.sl false 0 l.length 1 (rowT u8C l), .v (.int .i64 c.1), .v (.int .i64 c.2)]⟩] F.spec_l1DrawBytes [.ptr 0 [] 0, .v (.int .i64 most)] (.sl false 0 xs.length 1 (rowT u8C xs)) [⟨0, true, [.sl false 0 l.length 1 (rowT u8C l), .v (.int .i64 (c'.1)), .v (.int .i64 (c'.2))]⟩] := by
  obtain ⟨v, c1, hv, hc1, h1⟩ := below_ex l c (most + 1) hc (by omega)
  have ok := bytesF_ok hc1
  obtain ⟨n, rfl⟩ := Int.eq_ofNat_of_zero_le hv.1
  refine ⟨(bytesF l c1 n).1, (bytesF l c1 n).2, ⟨by rw [(ok _).2.1]; omega, (ok _).2.2⟩, (ok _).1, ?_⟩
  refine fnT C.spec_l1DrawBytes ?_
  refine runC ?_
  refine r_call1p 0 h1 ?_
  refine run ?_
  refine r_for n (fun i => [(0, .ptr 0 [] 0), (5, .ref 1 [] 0 (bytesF l c1 i).1.length), (6, .v (.int .i64 n)), (7, .v (.int .i64 i))]) (fun i => [⟨0, true, [.sl false 0 l.length 1 (rowT u8C l), .v (.int .i64 ((bytesF l c1 i).2.1)), .v (.int .i64 ((bytesF l c1 i).2.2))]⟩, ⟨1, true, rowT u8C (bytesF l c1 i).1⟩]) (fun _ => True) [0, 1] [] trivial Gc.of (fun i hi _ => ?_) (fun _ => ?_)
  · have hb := ok i
    have hB := drawB_b l (bytesF l c1 i).2.1 (bytesF l c1 i).2.2
    rw [bytesF]
    generalize bytesF l c1 i = s at *
    refine runC ?_
    refine r_call1p 0 (spec_l1Byte l s.2.1 s.2.2 hb.1) ?_
    refine run ?_
    exact ⟨[0, 3], [], Gc.of, trivial⟩
  · refine run ?_
    exact r_end [0] [1] (hm := keep_one _)

theorem text_ex (l : List Int) (c : Int × Int) (most : Int) (hc : curP l c.1) (hm : 0 ≤ most ∧ most ≤ 1000) : ∃ (s : ByteArray) (c' : Int × Int), (s.size : Int) ≤ most ∧ curP l c'.1 ∧ CallsT Try.prog [⟨0, true, [.sl false 0 l.length 1 (rowT u8C l), .v (.int .i64 c.1), .v (.int .i64 c.2)]⟩] F.spec_l3DrawText [.ptr 0 [] 0, .v (.int .i64 most)] (.v (.string s)) [⟨0, true, [.sl false 0 l.length 1 (rowT u8C l), .v (.int .i64 (c'.1)), .v (.int .i64 (c'.2))]⟩] := by
  obtain ⟨xs, c', hx, hc', h⟩ := bytes_ex l c most hc hm
  refine ⟨strOfT xs, c', by rw [strOf_size]; exact hx.1, hc', ?_⟩
  refine fnT C.spec_l3DrawText ?_
  refine runC ?_
  refine r_call1p 0 h ?_
  refine run ?_
  exact r_end [0] [] (hm := keep_one _)

/-- The texts of which one is drawn. -/
def text5 (s : ByteArray) : List ByteArray := [{ data := #[122, 111, 110, 101, 32, 65, 32, 54, 48, 32, 45, 10] }, { data := #[122, 111, 110, 101, 32, 65, 32, 48, 32, 45, 10, 122, 111, 110, 101, 32, 66, 32, 51, 48, 32, 45, 10] }, { data := #[] }, { data := #[35, 32, 110, 111, 32, 122, 111, 110, 101, 32, 97, 116, 32, 97, 108, 108, 32, 105, 110, 32, 116, 104, 105, 115, 32, 111, 110, 101, 32, 104, 101, 114, 101, 10] }, s]
theorem text14_ex (l : List Int) (c : Int × Int) (hc : curP l c.1) : ∃ (s : ByteArray) (c' : Int × Int), s.size ≤ 40 ∧ curP l c'.1 ∧ CallsT Try.prog [⟨0, true, [.sl false 0 l.length 1 (rowT u8C l), .v (.int .i64 c.1), .v (.int .i64 c.2)]⟩] F.spec_l14DrawText [.ptr 0 [] 0] (.v (.string s)) [⟨0, true, [.sl false 0 l.length 1 (rowT u8C l), .v (.int .i64 (c'.1)), .v (.int .i64 (c'.2))]⟩] := by
  obtain ⟨s, c1, hs, hc1, h1⟩ := text_ex l c 40 hc (by omega)
  have hb := below_b (n := (text5 s).length) (by show (0 : Int) < 5; decide) l c1.1 c1.2
  refine ⟨nth (text5 s) (belowV (text5 s).length l c1.1 c1.2), (belowN (text5 s).length l c1.1, belowS (text5 s).length c1.2), ?_, by dsimp only; exact below_next ((text5 s).length : Int) hc1, ?_⟩
  · have hm : nth (text5 s) (belowV (text5 s).length l c1.1 c1.2) ∈ text5 s := by
      have := nth_mem (l := text5 s) (i := (belowV (text5 s).length l c1.1 c1.2).toNat) (by omega)
      rwa [nth_toNat] at this
    generalize nth (text5 s) (belowV (text5 s).length l c1.1 c1.2) = x at hm
    unfold text5 at hm
    simp only [List.mem_cons, List.not_mem_nil, or_false] at hm
    rcases hm with rfl | rfl | rfl | rfl | rfl
    all_goals first | omega | decide
  refine fnT C.spec_l14DrawText ?_
  refine runC ?_
  refine r_call1p 0 h1 ?_
  refine runC ?_
  refine r_call1p 0 (spec_l1Pick l c1.1 c1.2 1 (text5 s) ⟨hc1, by show 0 < 5; decide, by show 5 ≤ _; decide⟩) ?_
  refine run ?_
  exact r_end [0] [] (hm := keep_one _)

end Go.TL
