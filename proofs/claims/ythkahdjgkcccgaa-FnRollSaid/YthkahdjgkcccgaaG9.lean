/- Rolls that are drawn and right: that there is one, whatever the bytes. No conditions but those that are written. -/
import Derived.Test.YthkahdjgkcccgaaJG7G8
import Derived.Test.YthkahdjgkcccgaaJM10M11
namespace Go.TL
set_option linter.unusedSimpArgs false
open Go.Proofs Go.RowKit
attribute [local irreducible] wpOpsT wpT EndT Ex.seq Ex.block W

theorem runSt_ok {B : Int} (hB : 0 ≤ B) : ∀ (l : List CmdV) (s : RollV × List Int), (∀ y ∈ l, y.kind = 2 → y.rel ≤ B) → rollX s.1 → nosB s.1.rels B → rollX (l.foldl runStep s).1 ∧ nosB (l.foldl runStep s).1.rels B
  | [], s, _, h1, h2 => ⟨h1, h2⟩
  | y :: l, s, hl, h1, h2 => by
    rw [List.foldl_cons]
    have h3 := nextX_ok h1 h2 (hl y (List.mem_cons_self ..))
    exact runSt_ok hB l (runStep s y) (fun z hz => hl z (List.mem_cons_of_mem _ hz)) h3.1 h3.2.2
theorem runV_new {of : Int} (ho : ofP of) {l : List CmdV} {B : Int} (hB : 0 ≤ B) (hl : ∀ y ∈ l, y.kind = 2 → y.rel ≤ B) : rollX (runV ⟨of, [], 0, []⟩ l).1 ∧ nosB (runV ⟨of, [], 0, []⟩ l).1.rels B := by
  have h0 : nosB ([] : List RelV) B := fun t ht => absurd ht (Nat.not_lt_zero _)
  unfold runV
  split
  · exact runSt_ok hB l (⟨of, [], 0, []⟩, []) hl (rollX_new ho) h0
  · exact ⟨rollX_new ho, h0⟩

def annC (x : RollV) (d : ByteArray) : CmdV := ⟨2, 900 + x.rels.length, 0, 0, d⟩
theorem ann_ok {x : RollV} {d : ByteArray} (hx : rollX x) (hl : x.rels.length < 30) (hB : nosB x.rels (899 + x.rels.length)) (hd : d.size = 32) :
    (applyC x (annC x d)).1.rels.length = x.rels.length + 1 ∧ rollX (applyC x (annC x d)).1 ∧ nosB (applyC x (annC x d)).1.rels (899 + (x.rels.length + 1 : Nat)) := by
  have hc : cmdP 2 (900 + x.rels.length) 0 0 d := by
    unfold cmdP
    rw [if_neg (by decide), if_pos rfl]
    exact ⟨by omega, by omega, by omega, rfl⟩
  have e : applyC x (annC x d) = (⟨x.of, x.rels ++ [⟨900 + x.rels.length, 0, d, [], 1⟩], x.act, x.order⟩, 0) := by
    unfold applyC applyP annC
    dsimp only
    rw [if_pos ⟨hx, hc⟩]
    unfold applyR
    rw [if_neg (show ¬ (2 : Int) = 1 by decide), if_pos rfl, if_neg, if_neg (by omega)]
    rintro ⟨h0, h1⟩
    have := hB (x.rels.length - 1) (by omega)
    rw [show (((x.rels.length - 1 : Nat)) : Int) = (x.rels.length : Int) - 1 by omega] at this
    omega
  have h2 := (applyC_ok (y := annC x d) hx (by rw [e])).1
  rw [e] at h2 ⊢
  refine ⟨by dsimp only; rw [List.length_append]; rfl, h2, ?_⟩
  exact nosB_app (nosB_mono hB (by omega)) (by dsimp only; omega)

/-- The loop that announces until the roll is full. -/
def annF (f : Int × Int → ByteArray × (Int × Int)) : Nat → Int × Int → RollV → (Int × Int) × RollV
  | 0, c, x => (c, x)
  | m + 1, c, x => if x.rels.length < 30 then annF f m (f c).2 (applyC x (annC x (f c).1)).1 else (c, x)
theorem annF_ok {l : List Int} {f : Int × Int → ByteArray × (Int × Int)} (hf : ∀ c, curP l c.1 → (f c).1.size = 32 ∧ curP l (f c).2.1) : ∀ (m : Nat) (c : Int × Int) (x : RollV), curP l c.1 → rollX x → nosB x.rels (899 + x.rels.length) → curP l (annF f m c x).1.1 ∧ rollX (annF f m c x).2
  | 0, c, x, hc, hx, _ => ⟨hc, hx⟩
  | m + 1, c, x, hc, hx, hB => by
    rw [annF]
    split
    · rename_i hl
      have h1 := hf c hc
      have h2 := ann_ok hx hl hB h1.1
      exact annF_ok hf m _ _ h1.2 h2.2.1 (by rw [h2.1]; exact h2.2.2)
    · exact ⟨hc, hx⟩

structure AnS where
  c : Int × Int
  x : RollV
def anG (l : List Int) (s : AnS) : Store := [⟨0, true, [.sl false 0 l.length 1 (rowT u8C l), .v (.int .i64 s.c.1), .v (.int .i64 s.c.2)]⟩, ⟨0, true, [.v (.int .i64 0), .v (.slice none 0 0), .v (.int .i64 0), .v (.slice none 0 0)]⟩, ⟨0, true, [.v (.int .i64 s.x.of), rowR 5 3 s.x.rels, .v (.int .i64 s.x.act), rowR 1 4 s.x.order]⟩, ⟨5, !s.x.rels.isEmpty, rowT relO s.x.rels⟩, ⟨1, !s.x.order.isEmpty, rowT i64C s.x.order⟩]

set_option linter.unusedSimpArgs false in
set_option maxHeartbeats 8000000 in
theorem right_roll (l : List Int) (c0 : Int × Int) (most : Int) (hc0 : curP l c0.1) (hm : 0 ≤ most ∧ most ≤ 80) :
    ∃ (x : RollV) (c' : Int × Int), rollX x ∧ curP l c'.1 ∧ CallsT Try.prog [⟨0, true, [.sl false 0 l.length 1 (rowT u8C l), .v (.int .i64 c0.1), .v (.int .i64 c0.2)]⟩] F.spec_l7DrawRight [.ptr 0 [] 0, .v (.int .i64 most)] (.agg [.v (.int .i64 x.of), rowR 5 1 x.rels, .v (.int .i64 x.act), rowR 1 2 x.order]) [⟨0, true, [.sl false 0 l.length 1 (rowT u8C l), .v (.int .i64 (c'.1)), .v (.int .i64 (c'.2))]⟩, ⟨5, !x.rels.isEmpty, rowT relO x.rels⟩, ⟨1, !x.order.isEmpty, rowT i64C x.order⟩] := by
  obtain ⟨f, hf⟩ := Classical.axiomOfChoice (r := fun (c : Int × Int) (z : ByteArray × (Int × Int)) => curP l c.1 → z.1.size = 32 ∧ curP l z.2.1 ∧ CallsT Try.prog [⟨0, true, [.sl false 0 l.length 1 (rowT u8C l), .v (.int .i64 c.1), .v (.int .i64 c.2)]⟩] F.spec_l5DrawDigest [.ptr 0 [] 0] (.v (.string z.1)) [⟨0, true, [.sl false 0 l.length 1 (rowT u8C l), .v (.int .i64 z.2.1), .v (.int .i64 z.2.2)]⟩]) (fun c => by
    by_cases h : curP l c.1
    · obtain ⟨d, c', h1, h2, h3⟩ := digest_ex l c h
      exact ⟨(d, c'), fun _ => ⟨h1, h2, h3⟩⟩
    · exact ⟨(⟨#[]⟩, (0, 0)), fun h1 => absurd h1 h⟩)
  obtain ⟨of, c1, hof, hc1, h1⟩ := pick_ex l c0 [1, 3, 3, 5] hc0 ⟨by decide, by decide⟩
  have ho : ofP of := by unfold ofP; simp at hof; omega
  obtain ⟨o, c2, ⟨hol, hoP⟩, hc2, h2⟩ := cmds_ex l c1 of most hc1 ho (by omega)
  obtain ⟨v, c3, hc3, h3⟩ := once_ex l c2 20 hc2 (by omega)
  have hrun := runV_new ho (l := o) (B := 320) (by omega) (fun y hy hk => by have := (hoP y hy).2 hk; omega)
  have hnew := spec_RollRun 1 1 1 of [] 0 [] o (by decide) (by omega)
  simp only [List.length_nil, rowT_nil] at hnew
  generalize runV ⟨of, [], 0, []⟩ o = q at *
  obtain ⟨hqx, hqB⟩ := hrun
  dsimp only [rollT, rollS, List.cons_append, List.nil_append] at hnew
  cases v with
  | false =>
    refine ⟨q.1, c3, hqx, hc3, ?_⟩
    refine fnT C.spec_l7DrawRight ?_
    refine runC ?_
    refine r_call1p 0 (h1 1) ?_
    refine run ?_
    refine r_calln [0] h2 ?_
    refine runC ?_
    refine r_callp true hnew ?_
    refine runC ?_
    refine r_call1p 0 h3 ?_
    refine run ?_
    exact r_end [0, 4, 5] []
  | true =>
    have hB : nosB q.1.rels (899 + q.1.rels.length) := nosB_mono hqB (by omega)
    have hF := annF_ok (l := l) (f := f) (fun c hc => ⟨(hf c hc).1, (hf c hc).2.1⟩) 31 c3 q.1 hc3 hqx hB
    generalize hFe : annF f 31 c3 q.1 = R at hF
    refine ⟨R.2, R.1, hF.2, hF.1, ?_⟩
    clear hF
    refine fnT C.spec_l7DrawRight ?_
    refine runC ?_
    refine r_call1p 0 (h1 1) ?_
    refine run ?_
    refine r_calln [0] h2 ?_
    refine runC ?_
    refine r_callp true hnew ?_
    refine runC ?_
    refine r_call1p 0 h3 ?_
    refine run ?_
    refine r_loop_of (fun (_ : AnS) => [(0, .ptr 0 [] 0), (4, .ptr 1 [] 0), (6, .ptr 2 [] 0)]) (fun s => anG l s) (fun s => curP l s.c.1 ∧ rollX s.x ∧ nosB s.x.rels (899 + s.x.rels.length) ∧ ∃ m, 30 - s.x.rels.length < m ∧ annF f m s.c s.x = R) (fun s => 30 - s.x.rels.length) ⟨c3, q.1⟩ [0, 1, 7, 4, 5] [] ⟨hc3, hqx, hB, 31, by omega, hFe⟩ Gc.of (fun s hs => ?_)
    obtain ⟨c, x⟩ := s
    obtain ⟨hc, hx, hxB, m, hm, hR⟩ := hs
    dsimp only at hc hx hxB hm hR
    obtain ⟨m, rfl⟩ : ∃ k, m = k + 1 := ⟨m - 1, by omega⟩
    rw [annF] at hR
    have hfc := hf c hc
    have htx := rollX_tot hx
    have hlx : (x.rels.length : Int) ≤ 30 := hx.2.1
    dsimp only [anG]
    refine run ?_
    refine r_ifd (fun hlt => ?_) (fun hlt => ?_)
    · have hlt' : x.rels.length < 30 := by omega
      rw [if_pos hlt'] at hR
      have hak := ann_ok hx hlt' hxB hfc.1
      have hsp := spec_RollApply 1 1 x.of x.rels x.act x.order 2 (900 + x.rels.length) 0 0 (f c).1 (bnd_tot (by omega)) (by omega)
      rw [show applyP x.of x.rels x.act x.order 2 (900 + x.rels.length) 0 0 (f c).1 = applyC x (annC x (f c).1) from rfl] at hsp
      generalize applyC x (annC x (f c).1) = p at *
      dsimp only [rollT, rollS] at hsp
      refine runC ?_
      refine r_call1p 0 hfc.2.2 ?_
      refine runC ?_
      refine r_callp true hsp ?_
      refine run ?_
      refine ⟨⟨(f c).2, p.1⟩, [0, 1, 2, 5, 6], [], Gc.of, by dsimp only; omega, hfc.2.1, hak.2.1, by rw [hak.1]; exact hak.2.2, m, by dsimp only; omega, hR⟩
    · rw [if_neg (by omega)] at hR
      subst hR
      refine run ?_
      exact r_end [0, 3, 4] []

end Go.TL
