/- Runs of commands, in plain words. No conditions. -/
import Derived.Test.YthkahdjgkcccgaaJM6M9
namespace Go.TL
set_option linter.unusedSimpArgs false
open Go.Proofs Go.RowKit
attribute [local irreducible] wpOpsT wpT EndT Ex.seq Ex.block W

def applyC (r : RollV) (c : CmdV) : RollV × Int := applyP r.of r.rels r.act r.order c.kind c.rel c.node c.size c.dig
def runStep (s : RollV × List Int) (c : CmdV) : RollV × List Int := (if (applyC s.1 c).2 = 0 then (applyC s.1 c).1 else s.1, s.2 ++ [(applyC s.1 c).2])
def runSt (r : RollV) (l : List CmdV) : RollV × List Int := l.foldl runStep (r, [])
def runV (r : RollV) (l : List CmdV) : RollV × List Int := if rollP r.of r.rels r.act r.order ∧ (l.length : Int) ≤ 80 then runSt r l else (r, [])
theorem runSt_s (r : RollV) {l : List CmdV} {i : Nat} (hi : i < l.length) : runSt r (l.take (i + 1)) = runStep (runSt r (l.take i)) (nth l (i : Nat)) := by
  rw [take_nth hi, runSt, List.foldl_append]; rfl
theorem runSt_len (r : RollV) (l : List CmdV) : (runSt r l).2.length = l.length := by
  have key : ∀ (l : List CmdV) (s : RollV × List Int), (l.foldl runStep s).2.length = s.2.length + l.length := by
    intro l
    induction l with
    | nil => intro s; rfl
    | cons c l ih => intro s; rw [List.foldl_cons, ih]; simp [runStep]; omega
  have := key l (r, [])
  simp only [List.length_nil, Nat.zero_add] at this
  exact this

theorem sum_cons {α : Type} (f : α → Int) (x : α) (l : List α) : sumI f (x :: l) = f x + sumI f l := by simp [sumI]
theorem sum_ap {α : Type} (f : α → Int) (a b : List α) : sumI f (a ++ b) = sumI f a + sumI f b := by simp [sumI]
theorem sum_set {α : Type} [Inhabited α] (f : α → Int) : ∀ (l : List α) (i : Nat) (x : α), i < l.length → sumI f (l.set i x) = sumI f l - f (nth l (i : Nat)) + f x
  | [], i, x, h => by simp at h
  | y :: l, 0, x, _ => by
    rw [List.set_cons_zero, sum_cons, sum_cons, show nth (y :: l) ((0 : Nat) : Int) = y from rfl]; omega
  | y :: l, i + 1, x, h => by
    have := sum_set f l i x (by simpa using h)
    rw [List.set_cons_succ, sum_cons, sum_cons, this, show nth (y :: l) ((i + 1 : Nat) : Int) = nth l (i : Nat) by unfold nth; simp]
    omega
theorem putI_len (l : List Int) (x : Int) : (putI l x).length ≤ 2 * l.length + 1 := by
  have := putSt_len x l
  unfold putI
  split
  · omega
  · rw [List.length_append]; simp; omega
theorem nodes_5 {of : Int} {rels : List RelV} {act : Int} {order : List Int} (h : rollP of rels act order) {i : Nat} (hi : i < rels.length) : (nth rels (i : Nat)).ready.length ≤ 5 := by
  have h1 := (h.2.2.1 i hi).2.2.2.2.1
  have h2 := nodes_len h.1 h1
  have := h.1
  unfold ofP at this
  omega
theorem tot_apply (r : RollV) (c : CmdV) : totRoll (applyC r c).1.rels (applyC r c).1.order ≤ totRoll r.rels r.order + 40 := by
  unfold applyC applyP
  have hn := totRoll_nn r.rels r.order
  split
  case isFalse => simp only [totRoll, totRelS, totIS, sumI, List.map_nil, List.sum_nil, List.length_nil] at hn ⊢; omega
  rename_i h
  obtain ⟨h1, h2⟩ := h
  unfold applyR
  split
  · dsimp only; omega
  rename_i k1
  split
  · rename_i k2
    unfold cmdP at h2
    rw [if_neg k1, if_pos k2] at h2
    split
    · dsimp only; omega
    · split
      · dsimp only; omega
      · dsimp only
        simp only [totRoll, totRelS, sum_ap, List.length_append, List.length_cons, List.length_nil, sum_cons, totRelV, totRel, totIS] at hn ⊢
        simp only [sumI, List.map_nil, List.sum_nil, List.length_nil] at hn ⊢
        omega
  split
  · dsimp only; omega
  rename_i k3
  have hfb := findR_b r.rels c.rel
  obtain ⟨i, hi⟩ := Int.eq_ofNat_of_zero_le (show 0 ≤ findR r.rels c.rel by omega)
  rw [hi] at hfb ⊢
  have hil : i < r.rels.length := by omega
  have h5 := nodes_5 h1 hil
  have hp := putI_len (nth r.rels (i : Nat)).ready c.node
  rw [Int.toNat_natCast]
  split
  · dsimp only; omega
  split
  · dsimp only
    simp only [totRoll, totRelS, List.length_set, sum_set _ _ _ _ hil, totRelV, totRel, totIS] at hn ⊢
    omega
  split
  · split
    · dsimp only; omega
    · split
      · dsimp only; omega
      · dsimp only
        simp only [totRoll, totRelS, List.length_set, sum_set _ _ _ _ hil, totRelV, totRel, totIS, List.length_append, List.length_cons, List.length_nil] at hn ⊢
        omega
  split
  · dsimp only
    simp only [totRoll, totRelS, List.length_set, sum_set _ _ _ _ hil, totRelV, totRel, totIS] at hn ⊢
    omega
  · dsimp only; omega
theorem tot_run (r : RollV) (l : List CmdV) : totRoll (runSt r l).1.rels (runSt r l).1.order ≤ totRoll r.rels r.order + 40 * l.length := by
  have key : ∀ (l : List CmdV) (s : RollV × List Int), totRoll (l.foldl runStep s).1.rels (l.foldl runStep s).1.order ≤ totRoll s.1.rels s.1.order + 40 * l.length := by
    intro l
    induction l with
    | nil => intro s; simp
    | cons c l ih =>
      intro s
      rw [List.foldl_cons]
      have h1 := ih (runStep s c)
      have h2 : totRoll (runStep s c).1.rels (runStep s c).1.order ≤ totRoll s.1.rels s.1.order + 40 := by
        unfold runStep
        dsimp only
        split
        · exact tot_apply s.1 c
        · omega
      simp only [List.length_cons]
      omega
  exact key l (r, [])
theorem sum_bnd {α : Type} [Inhabited α] {f : α → Int} {b : Int} (hb : 0 ≤ b) : ∀ (l : List α), (∀ i, i < l.length → f (nth l (i : Nat)) ≤ b) → sumI f l ≤ b * l.length
  | [], _ => by simp [sumI]
  | x :: l, h => by
    have h1 := h 0 (by simp)
    have h2 := sum_bnd hb l fun i hi => by
      have := h (i + 1) (by simpa using hi)
      rwa [show nth (x :: l) ((i + 1 : Nat) : Int) = nth l (i : Nat) by unfold nth; simp] at this
    rw [show nth (x :: l) ((0 : Nat) : Int) = x from rfl] at h1
    rw [sum_cons, List.length_cons, Int.natCast_add, Int.mul_add]
    simp only [Int.cast_ofNat_Int, Int.mul_one]
    omega
theorem tot_ok {of : Int} {rels : List RelV} {act : Int} {order : List Int} (h : rollP of rels act order) : totRoll rels order ≤ 2000 := by
  have h1 := sum_bnd (f := totRelV) (b := 37) (by omega) rels fun i hi => by
    have h2 := h.2.2.1 i hi
    have h3 := nodes_5 h hi
    have h4 := h2.2.2.2.1
    simp only [totRelV, totRel, totIS]
    omega
  have h2 := h.2.1
  have h3 := actL_len rels
  rw [h.2.2.2.1] at h3
  simp only [totRoll, totRelS, totIS]
  omega
theorem bnd_tot {rels : List RelV} {order : List Int} (h : totRoll rels order ≤ 1048576) : bndRoll rels order := by
  have hn := sum_nn totRelV_nn rels
  have h6 : totIS order = order.length := rfl
  unfold totRoll totRelS at h
  refine ⟨⟨by omega, fun x hx => ?_⟩, ?_⟩
  · obtain ⟨i, hi, rfl⟩ := List.mem_iff_getElem.1 hx
    have h1 := sum_take totRelV hi
    have h2 := sum_le totRelV_nn rels (i + 1)
    have h3 := sum_nn totRelV_nn (rels.take i)
    rw [nth_nat hi] at h1
    have h4 : totRelV rels[i] ≤ 1048576 := by omega
    have h5 : totIS rels[i].ready = rels[i].ready.length := rfl
    unfold totRelV totRel at h4
    exact ⟨by omega, by show _ * 8 ≤ _; omega⟩
  · show _ * 8 ≤ _
    omega

end Go.TL
