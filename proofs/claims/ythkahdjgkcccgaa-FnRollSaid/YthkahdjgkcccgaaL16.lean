/- A roll that is right stays right, whatever a command does to it; what it has of other releases stays. No conditions. -/
import Derived.Test.YthkahdjgkcccgaaJM10M11
namespace Go.TL
set_option linter.unusedSimpArgs false
open Go.Proofs Go.RowKit
attribute [local irreducible] wpOpsT wpT EndT Ex.seq Ex.block W

theorem nodes_asc {of : Int} {r : List Int} (h : nodesP of r) : ∀ i, i + 1 < r.length → nth r (i : Nat) < nth r ((i + 1 : Nat) : Int) := by
  intro i hi
  have := (h (i + 1) hi).2
  rw [show (((i + 1 : Nat) : Int) - 1) = (i : Nat) by omega] at this
  omega
theorem insAt_gt {r : List Int} {x : Int} {j t : Nat} (h : j ≤ t) (ht : t < r.length) : nth (insAt r x j) ((t + 1 : Nat) : Int) = nth r (t : Nat) := by
  have hj : j ≤ r.length := by omega
  rw [nth_nat (by rw [insAt_len hj]; omega), nth_nat ht]
  unfold insAt
  rw [List.getElem_append_right (by rw [List.length_take]; omega)]
  have e : t + 1 - (r.take j).length = (t - j) + 1 := by rw [List.length_take]; omega
  simp only [e, List.getElem_cons_succ, List.getElem_drop]
  congr 1
  omega
theorem nodes_put {of : Int} {r : List Int} {x : Int} (ho : ofP of) (h : nodesP of r) (hx : 0 ≤ x ∧ x ≤ of - 1) : nodesP of (putI r x) := by
  by_cases hm : x ∈ r
  · rw [putI_mem (nodes_asc h) hm]; exact h
  obtain ⟨j, hj, h1, h2⟩ := asc_place (nodes_asc h) hm
  rw [putI_insAt hj h1 h2]
  have hw := wrap_of ho
  intro i hi
  rw [insAt_len hj] at hi
  have vs : ∀ t, t < r.length + 1 → (t < j ∧ nth (insAt r x j) (t : Nat) = nth r (t : Nat)) ∨ (t = j ∧ nth (insAt r x j) (t : Nat) = x) ∨ (j < t ∧ nth (insAt r x j) (t : Nat) = nth r ((t - 1 : Nat) : Int)) := by
    intro t ht
    rcases Nat.lt_trichotomy t j with hlt | rfl | hgt
    · exact .inl ⟨hlt, insAt_lt hj hlt⟩
    · exact .inr (.inl ⟨rfl, insAt_at hj⟩)
    · refine .inr (.inr ⟨hgt, ?_⟩)
      obtain ⟨u, rfl⟩ : ∃ u, t = u + 1 := ⟨t - 1, by omega⟩
      exact insAt_gt (by omega) (by omega)
  have hr : ∀ t, t < r.length → 0 ≤ nth r (t : Nat) ∧ nth r (t : Nat) ≤ of - 1 := fun t ht => by
    have := (h t ht).1
    rw [hw] at this
    exact this
  have ha := nodes_asc h
  unfold nodeP
  rw [hw]
  refine ⟨?_, fun hh => ?_⟩
  · rcases vs i hi with ⟨h3, e⟩ | ⟨_, e⟩ | ⟨h3, e⟩
    · rw [e]; exact hr i (by omega)
    · rw [e]; exact hx
    · rw [e]; exact hr _ (by omega)
  · obtain ⟨h0, hle⟩ := hh
    obtain ⟨u, rfl⟩ : ∃ u, i = u + 1 := ⟨i - 1, by omega⟩
    rw [show (((u + 1 : Nat) : Int) - 1) = (u : Nat) by omega] at hle
    rcases vs (u + 1) hi with ⟨h3, e⟩ | ⟨h3, e⟩ | ⟨h3, e⟩ <;> rcases vs u (by omega) with ⟨h4, e2⟩ | ⟨h4, e2⟩ | ⟨h4, e2⟩ <;> rw [e, e2] at hle
    · have := ha u (by omega); omega
    · omega
    · omega
    · have := h1 u (by omega); omega
    · omega
    · omega
    · omega
    · have := h2 u (by omega) (by omega)
      rw [Nat.add_sub_cancel] at hle
      omega
    · have := ha (u - 1) (by omega)
      rw [show u - 1 + 1 = u by omega] at this
      rw [Nat.add_sub_cancel] at hle
      omega
theorem put_len_ge {of : Int} {r : List Int} {x : Int} (h : nodesP of r) : r.length ≤ (putI r x).length := by
  by_cases hm : x ∈ r
  · rw [putI_mem (nodes_asc h) hm]; exact Nat.le_refl _
  · rw [putI_len1 (nodes_asc h) hm, List.length_append]; omega

theorem nth_setL {α : Type} [Inhabited α] {l : List α} {i j : Nat} {x : α} (hj : j < l.length) : nth (l.set i x) (j : Nat) = if i = j then x else nth l (j : Nat) := by
  rw [nth_nat (by rw [List.length_set]; exact hj), nth_nat hj, List.getElem_set]
theorem actL_app (a b : List RelV) : actL (a ++ b) = actL a ++ actL b := by simp [actL]
theorem set_cut {α : Type} [Inhabited α] (l : List α) {i : Nat} (x : α) (hi : i < l.length) : l.set i x = l.take i ++ ([x] ++ l.drop (i + 1)) := by
  rw [List.set_eq_take_append_cons_drop, if_pos hi]; rfl
theorem cut_at {α : Type} [Inhabited α] (l : List α) {i : Nat} (hi : i < l.length) : l = l.take i ++ ([nth l (i : Nat)] ++ l.drop (i + 1)) := by
  conv => lhs; rw [← List.take_append_drop i l, List.drop_eq_getElem_cons hi]
  rw [nth_nat hi]; rfl
theorem actL_1y {x : RelV} (h : x.state = 2) : actL [x] = [x.no] := by simp [actL, h]
theorem actL_1n {x : RelV} (h : ¬ x.state = 2) : actL [x] = [] := by simp [actL, h]
theorem actL_set {l : List RelV} {i : Nat} {x : RelV} (hi : i < l.length) (h1 : ¬ x.state = 2) (h2 : ¬ (nth l (i : Nat)).state = 2) : actL (l.set i x) = actL l := by
  conv => rhs; rw [cut_at l hi]
  rw [set_cut l x hi, actL_app, actL_app, actL_app, actL_app, actL_1n h1, actL_1n h2]

theorem nos_asc {of : Int} {l : List RelV} (h : ∀ i, i < l.length → relP of l i) : ∀ i, i + 1 < l.length → (nth l (i : Nat)).no < (nth l ((i + 1 : Nat) : Int)).no := by
  intro i hi
  have := (h (i + 1) hi).2.1
  rw [show (((i + 1 : Nat) : Int) - 1) = (i : Nat) by omega] at this
  omega
theorem nos_lt {of : Int} {l : List RelV} (h : ∀ i, i < l.length → relP of l i) : ∀ d i, i + d + 1 < l.length → (nth l (i : Nat)).no < (nth l ((i + d + 1 : Nat) : Int)).no := by
  intro d
  induction d with
  | zero => intro i hi; exact nos_asc h i hi
  | succ d ih =>
    intro i hi
    have h1 := ih i (by omega)
    have h2 := nos_asc h (i + d + 1) hi
    rw [show i + (d + 1) + 1 = i + d + 1 + 1 by omega]
    omega
theorem nos_lt' {of : Int} {l : List RelV} (h : ∀ i, i < l.length → relP of l i) {i j : Nat} (hij : i < j) (hj : j < l.length) : (nth l (i : Nat)).no < (nth l (j : Nat)).no := by
  have := nos_lt h (j - i - 1) i (by omega)
  rw [show i + (j - i - 1) + 1 = j by omega] at this
  exact this

/-- One release is changed, not its number. -/
theorem rel_set {of : Int} {l : List RelV} {i : Nat} {x : RelV} (h : ∀ j, j < l.length → relP of l j) (hi : i < l.length) (hn : x.no = (nth l (i : Nat)).no) (hz : x.size = (nth l (i : Nat)).size) (hd : x.dig = (nth l (i : Nat)).dig)
    (hr : nodesP of x.ready) (hs : 1 ≤ x.state ∧ x.state ≤ 3) (h2 : x.state = 2 → (x.ready.length : Int) = of) : ∀ j, j < (l.set i x).length → relP of (l.set i x) j := by
  intro j hj
  rw [List.length_set] at hj
  have nos : ∀ t, t < l.length → (nth (l.set i x) (t : Nat)).no = (nth l (t : Nat)).no := fun t ht => by
    rw [nth_setL ht]
    split
    · rename_i e; subst e; exact hn
    · rfl
  have hj0 := h j hj
  have hprev : ¬ ((0 : Int) < j ∧ (nth (l.set i x) (j : Nat)).no ≤ (nth (l.set i x) ((j : Int) - 1)).no) := by
    rintro ⟨h3, h4⟩
    obtain ⟨u, rfl⟩ : ∃ u, j = u + 1 := ⟨j - 1, by omega⟩
    rw [show (((u + 1 : Nat) : Int) - 1) = (u : Nat) by omega, nos _ hj, nos u (by omega)] at h4
    have := nos_asc h u hj
    omega
  by_cases e : i = j
  · subst e
    have hx : nth (l.set i x) (i : Nat) = x := by rw [nth_setL hi, if_pos rfl]
    refine ⟨?_, hprev, ?_, ?_, ?_, ?_, ?_⟩ <;> rw [hx]
    · rw [hn]; exact hj0.1
    · rw [hz]; exact hj0.2.2.1
    · rw [hd]; exact hj0.2.2.2.1
    · exact hr
    · exact hs
    · exact h2
  · have hx : nth (l.set i x) (j : Nat) = nth l (j : Nat) := by rw [nth_setL hj, if_neg e]
    refine ⟨?_, hprev, ?_, ?_, ?_, ?_, ?_⟩ <;> rw [hx]
    · exact hj0.1
    · exact hj0.2.2.1
    · exact hj0.2.2.2.1
    · exact hj0.2.2.2.2.1
    · exact hj0.2.2.2.2.2.1
    · exact hj0.2.2.2.2.2.2

theorem lastI_app (a : List Int) (x : Int) : lastI (a ++ [x]) = x := by
  unfold lastI
  rw [if_pos (by rw [List.length_append, List.length_singleton]; omega)]
  rw [show (((a ++ [x]).length : Int) - 1) = (a.length : Nat) by rw [List.length_append, List.length_singleton]; omega, nth_nat (by simp)]
  simp
theorem lastI_mem {a b : List Int} (hb : b ≠ []) : lastI (a ++ b) ∈ b := by
  obtain ⟨y, hy⟩ : ∃ y, b = b.dropLast ++ [y] := ⟨b.getLast hb, (List.dropLast_concat_getLast hb).symm⟩
  rw [hy, ← List.append_assoc, lastI_app]
  simp
theorem act_new {of : Int} {l : List RelV} (h : ∀ j, j < l.length → relP of l j) {i : Nat} (hi : i < l.length) {x : RelV} (hx : x.state = 2) (hn : x.no = (nth l (i : Nat)).no) (h1 : ¬ (nth l (i : Nat)).state = 2) (ha : lastI (actL l) < (nth l (i : Nat)).no) : actL (l.set i x) = actL l ++ [(nth l (i : Nat)).no] := by
  have hd : actL (l.drop (i + 1)) = [] := by
    by_cases hb : actL (l.drop (i + 1)) = []
    · exact hb
    · have e : actL l = actL (l.take i) ++ actL (l.drop (i + 1)) := by
        conv => lhs; rw [cut_at l hi]
        rw [actL_app, actL_app, actL_1n h1, List.nil_append]
      have hm := lastI_mem (a := actL (l.take i)) hb
      rw [← e] at hm
      unfold actL at hm
      obtain ⟨y, hy, hyn⟩ := List.mem_map.1 hm
      have hy := (List.mem_filter.1 hy).1
      obtain ⟨t, ht, rfl⟩ := List.getElem_of_mem hy
      rw [List.length_drop] at ht
      have h3 := nos_lt' h (i := i) (j := i + 1 + t) (by omega) (by omega)
      rw [nth_nat (i := i + 1 + t) (by omega), ← List.getElem_drop (h := by rw [List.length_drop]; omega)] at h3
      have h4 : (l.drop (i + 1))[t].no = lastI (actL l) := hyn
      omega
  have e2 : actL l = actL (l.take i) := by
    conv => lhs; rw [cut_at l hi]
    rw [actL_app, actL_app, actL_1n h1, hd]
    simp
  rw [e2, set_cut l x hi, actL_app, actL_app, actL_1y hx, hd, hn]
  simp

theorem nthA_lt {α : Type} [Inhabited α] {l : List α} {x : α} {j : Nat} (h : j < l.length) : nth (l ++ [x]) (j : Nat) = nth l (j : Nat) := by
  rw [nth_nat (by rw [List.length_append]; omega), nth_nat h, List.getElem_append_left h]
theorem nthA_at {α : Type} [Inhabited α] (l : List α) (x : α) : nth (l ++ [x]) ((l.length : Nat) : Int) = x := by
  rw [nth_nat (by simp)]; simp
theorem findR_ok {l : List RelV} {n : Int} {i : Nat} (h : findR l n = i) : i < l.length ∧ (nth l (i : Nat)).no = n := by
  unfold findR findBy at h
  split at h
  · rename_i hlt
    have e : l.findIdx (fun x => decide (x.no = n)) = i := by omega
    have h2 := List.findIdx_getElem (w := hlt)
    refine ⟨by omega, ?_⟩
    rw [nth_nat (by omega)]
    simp only [decide_eq_true_eq] at h2
    simp only [e] at h2
    exact h2
  · omega

/-- What is kept of releases that are not named. -/
def keepP (rels : List RelV) (r : Int) (q : List RelV) : Prop := rels.length ≤ q.length ∧ q.length ≤ rels.length + 1 ∧ ∀ i, i < rels.length →
  (nth q (i : Nat)).no = (nth rels (i : Nat)).no ∧ (nth q (i : Nat)).size = (nth rels (i : Nat)).size ∧ (nth q (i : Nat)).dig = (nth rels (i : Nat)).dig ∧ ((nth rels (i : Nat)).no ≠ r → (nth q (i : Nat)).state = (nth rels (i : Nat)).state ∧ (nth q (i : Nat)).ready = (nth rels (i : Nat)).ready) ∧ (nth rels (i : Nat)).ready.length ≤ (nth q (i : Nat)).ready.length
theorem keep_same (rels : List RelV) (r : Int) : keepP rels r rels := ⟨Nat.le_refl _, by omega, fun _ _ => ⟨rfl, rfl, rfl, fun _ => ⟨rfl, rfl⟩, Nat.le_refl _⟩⟩
theorem keep_set {rels : List RelV} {r : Int} {i : Nat} {x : RelV} (_hi : i < rels.length) (hr : (nth rels (i : Nat)).no = r) (hn : x.no = (nth rels (i : Nat)).no) (hz : x.size = (nth rels (i : Nat)).size) (hd : x.dig = (nth rels (i : Nat)).dig) (hl : (nth rels (i : Nat)).ready.length ≤ x.ready.length) : keepP rels r (rels.set i x) := by
  refine ⟨by rw [List.length_set]; exact Nat.le_refl _, by rw [List.length_set]; omega, fun j hj => ?_⟩
  rw [nth_setL hj]
  split
  · rename_i e
    subst e
    exact ⟨hn, hz, hd, fun h => absurd hr h, hl⟩
  · exact ⟨rfl, rfl, rfl, fun _ => ⟨rfl, rfl⟩, Nat.le_refl _⟩
theorem keep_app (rels : List RelV) (r : Int) (x : RelV) : keepP rels r (rels ++ [x]) := by
  refine ⟨by rw [List.length_append]; omega, by rw [List.length_append]; simp, fun j hj => ?_⟩
  rw [nthA_lt hj]
  exact ⟨rfl, rfl, rfl, fun _ => ⟨rfl, rfl⟩, Nat.le_refl _⟩

theorem roll_apply {of : Int} {rels : List RelV} {act : Int} {order : List Int} {k r n z : Int} {d : ByteArray} (h : rollP of rels act order) (hc : cmdP k r n z d) :
    rollP (applyR of rels act order k r n z d).1.of (applyR of rels act order k r n z d).1.rels (applyR of rels act order k r n z d).1.act (applyR of rels act order k r n z d).1.order ∧ keepP rels r (applyR of rels act order k r n z d).1.rels := by
  have h0 := h
  obtain ⟨ho, hl, hr, ha, hact⟩ := h
  have same : rollP of rels act order ∧ keepP rels r rels := ⟨h0, keep_same rels r⟩
  unfold applyR
  split
  · exact same
  rename_i k1
  split
  · rename_i k2
    unfold cmdP at hc
    rw [if_neg k1, if_pos k2] at hc
    split
    · exact same
    rename_i h1
    split
    · exact same
    rename_i h2
    refine ⟨⟨ho, by dsimp only; rw [List.length_append, List.length_singleton]; omega, fun j hj => ?_, ?_, ?_⟩, keep_app _ _ _⟩
    · dsimp only at hj ⊢
      rw [List.length_append, List.length_singleton] at hj
      rcases Nat.lt_or_ge j rels.length with hlt | hge
      · have hj0 := hr j hlt
        have hx := nthA_lt (x := (⟨r, z, d, [], 1⟩ : RelV)) hlt
        refine ⟨?_, ?_, ?_, ?_, ?_, ?_, ?_⟩
        · rw [hx]; exact hj0.1
        · rw [hx]
          rintro ⟨h3, h4⟩
          rw [show ((j : Int) - 1) = ((j - 1 : Nat) : Int) by omega, nthA_lt (by omega)] at h4
          exact hj0.2.1 ⟨h3, by rw [show ((j : Int) - 1) = ((j - 1 : Nat) : Int) by omega]; exact h4⟩
        · rw [hx]; exact hj0.2.2.1
        · rw [hx]; exact hj0.2.2.2.1
        · rw [hx]; exact hj0.2.2.2.2.1
        · rw [hx]; exact hj0.2.2.2.2.2.1
        · rw [hx]; exact hj0.2.2.2.2.2.2
      · obtain rfl : j = rels.length := by omega
        have hx := nthA_at rels (⟨r, z, d, [], 1⟩ : RelV)
        refine ⟨?_, ?_, ?_, ?_, ?_, ?_, ?_⟩
        · rw [hx]; exact hc.1
        · rw [hx]
          rintro ⟨h3, h4⟩
          rw [show ((rels.length : Int) - 1) = ((rels.length - 1 : Nat) : Int) by omega, nthA_lt (by omega)] at h4
          exact h1 ⟨h3, by rw [show ((rels.length : Int) - 1) = ((rels.length - 1 : Nat) : Int) by omega]; exact h4⟩
        · rw [hx]; exact hc.2.1
        · rw [hx]; exact hc.2.2.1
        · rw [hx]; intro i hi; exact absurd hi (Nat.not_lt_zero _)
        · rw [hx]; exact ⟨by dsimp only; omega, by dsimp only; omega⟩
        · rw [hx]; intro hh; dsimp only at hh; omega
    · dsimp only
      rw [actL_app, actL_1n (by dsimp only; omega), List.append_nil]; exact ha
    · dsimp only
      rw [actL_app, actL_1n (by dsimp only; omega), List.append_nil]; exact hact
  rename_i k2
  split
  · exact same
  rename_i h1
  split
  · exact same
  rename_i h2
  have h2 : (nth rels (findR rels r)).state = 1 := Decidable.not_not.1 h2
  obtain ⟨i, hi⟩ := Int.eq_ofNat_of_zero_le (show 0 ≤ findR rels r by omega)
  obtain ⟨hil, hin⟩ := findR_ok hi
  rw [hi] at h2 ⊢
  rw [Int.toNat_natCast]
  have hi0 := hr i hil
  split
  · rename_i k3
    have hn : 0 ≤ n ∧ n ≤ of - 1 := by
      unfold cmdP at hc
      rw [if_neg k1, if_neg k2, if_pos k3] at hc
      exact ⟨hc.2.1.1, by omega⟩
    refine ⟨⟨ho, by dsimp only; rw [List.length_set]; exact hl, ?_, ?_, ?_⟩, keep_set hil hin rfl rfl rfl (put_len_ge hi0.2.2.2.2.1)⟩
    · exact rel_set hr hil rfl rfl rfl (nodes_put ho hi0.2.2.2.2.1 hn) (by dsimp only; omega) (by dsimp only; omega)
    · dsimp only
      rw [actL_set hil (by dsimp only; omega) (by omega)]; exact ha
    · dsimp only
      rw [actL_set hil (by dsimp only; omega) (by omega)]; exact hact
  split
  · split
    · exact same
    rename_i h3
    split
    · exact same
    rename_i h4
    have hlen := nodes_len ho hi0.2.2.2.2.1
    have e := act_new hr hil (x := { nth rels (i : Nat) with state := 2 }) rfl rfl (by omega) (by rw [hin, ← hact]; omega)
    refine ⟨⟨ho, by dsimp only; rw [List.length_set]; exact hl, ?_, ?_, ?_⟩, keep_set hil hin rfl rfl rfl (Nat.le_refl _)⟩
    · exact rel_set hr hil rfl rfl rfl hi0.2.2.2.2.1 ⟨by dsimp only; omega, by dsimp only; omega⟩ (fun _ => by dsimp only; omega)
    · dsimp only
      rw [e, ha, hin]
    · dsimp only
      rw [e, lastI_app, hin]
  split
  · refine ⟨⟨ho, by dsimp only; rw [List.length_set]; exact hl, ?_, ?_, ?_⟩, keep_set hil hin rfl rfl rfl (Nat.le_refl _)⟩
    · exact rel_set hr hil rfl rfl rfl hi0.2.2.2.2.1 ⟨by dsimp only; omega, by dsimp only; omega⟩ (fun hh => by dsimp only at hh; omega)
    · dsimp only
      rw [actL_set hil (by dsimp only; omega) (by omega)]; exact ha
    · dsimp only
      rw [actL_set hil (by dsimp only; omega) (by omega)]; exact hact
  · exact same

end Go.TL
