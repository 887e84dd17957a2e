/- Rows in order of their minutes, alike ones in the order in which they came: there is one such row. No conditions but those that are written. -/
import Derived.Test.YtkecbkljfpebhaaX1
namespace Go.TL
set_option linter.unusedSimpArgs false
open Go.Proofs Go.RowKit
attribute [local irreducible] wpOpsT wpT EndT Ex.seq Ex.block W

/-- Minutes do not fall. -/
def ascP (l : List ShiftV) : Prop := l.Pairwise (fun a b => a.at' ≤ b.at')
/-- What a list has of one minute, in order. -/
def ofK (k : Int) (l : List ShiftV) : List ShiftV := l.filter (fun x => decide (x.at' = k))
/-- The same of each minute. -/
def sameK (a b : List ShiftV) : Prop := ∀ k, ofK k a = ofK k b

theorem ofK_app (k : Int) (a b : List ShiftV) : ofK k (a ++ b) = ofK k a ++ ofK k b := List.filter_append ..
theorem mem_ofK {k : Int} {l : List ShiftV} {x : ShiftV} : x ∈ ofK k l ↔ x ∈ l ∧ x.at' = k := by
  unfold ofK
  rw [List.mem_filter, decide_eq_true_iff]
theorem sameK_refl (a : List ShiftV) : sameK a a := fun _ => rfl
theorem sameK_tr {a b c : List ShiftV} (h : sameK a b) (h2 : sameK b c) : sameK a c := fun k => (h k).trans (h2 k)
theorem sameK_sy {a b : List ShiftV} (h : sameK a b) : sameK b a := fun k => (h k).symm
theorem sameK_app {a b c d : List ShiftV} (h : sameK a b) (h2 : sameK c d) : sameK (a ++ c) (b ++ d) := fun k => by
  rw [ofK_app, ofK_app, h k, h2 k]
theorem sameK_mem {a b : List ShiftV} (h : sameK a b) {x : ShiftV} (hx : x ∈ a) : x ∈ b := by
  have : x ∈ ofK x.at' a := mem_ofK.2 ⟨hx, rfl⟩
  rw [h] at this
  exact (mem_ofK.1 this).1
theorem ofK_nil {k : Int} {l : List ShiftV} (h : ∀ x ∈ l, x.at' ≠ k) : ofK k l = [] := by
  unfold ofK
  rw [List.filter_eq_nil_iff]
  intro x hx
  rw [decide_eq_true_iff]
  exact h x hx
theorem sameK_xch {a b : List ShiftV} (h : ∀ x ∈ a, ∀ y ∈ b, y.at' < x.at') : sameK (a ++ b) (b ++ a) := fun k => by
  rw [ofK_app, ofK_app]
  by_cases ha : ∃ x ∈ a, x.at' = k
  · obtain ⟨x, hx, rfl⟩ := ha
    rw [ofK_nil (l := b) (fun y hy => by have := h x hx y hy; omega)]
    rw [List.append_nil, List.nil_append]
  · rw [ofK_nil (l := a) (fun x hx e => ha ⟨x, hx, e⟩)]
    rw [List.append_nil, List.nil_append]
theorem sameK_len {a b : List ShiftV} (h : sameK a b) : a.length = b.length := by
  induction a generalizing b with
  | nil =>
    cases b with
    | nil => rfl
    | cons y b => exact absurd (sameK_mem (sameK_sy h) (List.mem_cons_self ..)) (List.not_mem_nil)
  | cons x a ih =>
    obtain ⟨p, q, rfl⟩ := List.append_of_mem (sameK_mem h (List.mem_cons_self ..))
    have hx : ofK x.at' [x] = [x] := by simp [ofK]
    have hk : ∀ k, ¬ x.at' = k → ofK k [x] = [] := fun k hk => by simp [ofK, hk]
    have : sameK a (p ++ q) → a.length + 1 = (p ++ x :: q).length := fun hh => by
      rw [ih hh]; simp only [List.length_append, List.length_cons]; omega
    have h1 : (x :: a).length = a.length + 1 := rfl
    rw [h1]
    clear this
    have hc : ∀ k, (ofK k a).length = (ofK k (p ++ q)).length := fun k => by
      have := congrArg List.length (h k)
      rw [show x :: a = [x] ++ a from rfl, show p ++ x :: q = p ++ ([x] ++ q) from rfl, ofK_app, ofK_app, ofK_app] at this
      rw [ofK_app]
      simp only [List.length_append] at this ⊢
      omega
    have key : ∀ (c d : List ShiftV), (∀ k, (ofK k c).length = (ofK k d).length) → c.length = d.length := by
      intro c
      induction c with
      | nil =>
        intro d hd
        cases d with
        | nil => rfl
        | cons y d =>
          have := hd y.at'
          rw [show y :: d = [y] ++ d from rfl, ofK_app, show ofK y.at' [y] = [y] by simp [ofK]] at this
          simp [ofK] at this
      | cons z c ihc =>
        intro d hd
        have hz := hd z.at'
        rw [show z :: c = [z] ++ c from rfl, ofK_app, show ofK z.at' [z] = [z] by simp [ofK]] at hz
        have hne : ofK z.at' d ≠ [] := fun e => by rw [e] at hz; simp at hz
        obtain ⟨w, hw⟩ := List.exists_mem_of_ne_nil _ hne
        obtain ⟨hw1, hw2⟩ := mem_ofK.1 hw
        obtain ⟨u, v, rfl⟩ := List.append_of_mem hw1
        have := ihc (u ++ v) fun k => by
          have := hd k
          rw [show z :: c = [z] ++ c from rfl, show u ++ w :: v = u ++ ([w] ++ v) from rfl, ofK_app, ofK_app, ofK_app] at this
          rw [ofK_app]
          have e : (ofK k [z]).length = (ofK k [w]).length := by
            by_cases hk : z.at' = k
            · simp [ofK, hk, hw2.trans hk]
            · have hw3 : ¬ w.at' = k := fun q => hk (hw2.symm.trans q)
              simp [ofK, hk, hw3]
          simp only [List.length_append] at this ⊢
          omega
        simp only [List.length_append, List.length_cons] at this ⊢
        omega
    have := key a (p ++ q) hc
    simp only [List.length_append, List.length_cons] at this ⊢
    omega

/-- There is one row in order that has the same of each minute. -/
theorem stable_uniq : ∀ {a b : List ShiftV}, ascP a → ascP b → sameK a b → a = b
  | [], b, _, _, h => by
    cases b with
    | nil => rfl
    | cons y b => exact absurd (sameK_mem (sameK_sy h) (List.mem_cons_self ..)) (List.not_mem_nil)
  | x :: a, [], _, _, h => absurd (sameK_mem h (List.mem_cons_self ..)) (List.not_mem_nil)
  | x :: a, y :: b, ha, hb, h => by
    have ha' := List.pairwise_cons.1 ha
    have hb' := List.pairwise_cons.1 hb
    have h1 : x.at' ≤ y.at' := by
      rcases List.mem_cons.1 (sameK_mem (sameK_sy h) (List.mem_cons_self (a := y) (l := b))) with e | e
      · rw [e]; exact Int.le_refl _
      · exact ha'.1 y e
    have h2 : y.at' ≤ x.at' := by
      rcases List.mem_cons.1 (sameK_mem h (List.mem_cons_self (a := x) (l := a))) with e | e
      · rw [e]; exact Int.le_refl _
      · exact hb'.1 x e
    have hk : y.at' = x.at' := by omega
    have h3 := h x.at'
    rw [show x :: a = [x] ++ a from rfl, show y :: b = [y] ++ b from rfl, ofK_app, ofK_app, show ofK x.at' [x] = [x] by simp [ofK], show ofK x.at' [y] = [y] by simp [ofK, hk]] at h3
    injection h3 with e1 e2
    subst e1
    rw [stable_uniq ha'.2 hb'.2 fun k => by
      have h4 := h k
      rw [show x :: a = [x] ++ a from rfl, show x :: b = [x] ++ b from rfl, ofK_app, ofK_app] at h4
      exact List.append_cancel_left h4]

theorem asc_app {a b : List ShiftV} (ha : ascP a) (hb : ascP b) (h : ∀ x ∈ a, ∀ y ∈ b, x.at' ≤ y.at') : ascP (a ++ b) := List.pairwise_append.2 ⟨ha, hb, h⟩
theorem asc_take {a : List ShiftV} (h : ascP a) (n : Nat) : ascP (a.take n) := List.Pairwise.sublist (List.take_sublist ..) h
theorem asc_drop {a : List ShiftV} (h : ascP a) (n : Nat) : ascP (a.drop n) := List.Pairwise.sublist (List.drop_sublist ..) h
theorem asc_nth {a : List ShiftV} (h : ascP a) {i j : Nat} (hij : i ≤ j) (hj : j < a.length) : (nth a (i : Nat)).at' ≤ (nth a (j : Nat)).at' := by
  rcases Nat.eq_or_lt_of_le hij with rfl | hlt
  · exact Int.le_refl _
  · rw [nth_nat (by omega), nth_nat hj]
    exact List.pairwise_iff_getElem.1 h i j (by omega) hj hlt
theorem mem_take {a : List ShiftV} {n : Nat} {x : ShiftV} (h : x ∈ a.take n) : ∃ i, i < n ∧ i < a.length ∧ nth a (i : Nat) = x := by
  obtain ⟨i, hi, rfl⟩ := List.mem_iff_getElem.1 h
  rw [List.length_take] at hi
  exact ⟨i, by omega, by omega, by rw [nth_nat (by omega), List.getElem_take]⟩
theorem mem_drop {a : List ShiftV} {n : Nat} {x : ShiftV} (h : x ∈ a.drop n) : ∃ i, n ≤ i ∧ i < a.length ∧ nth a (i : Nat) = x := by
  obtain ⟨i, hi, rfl⟩ := List.mem_iff_getElem.1 h
  rw [List.length_drop] at hi
  exact ⟨n + i, by omega, by omega, by rw [nth_nat (by omega), List.getElem_drop]⟩

/-- Where two rows in order are cut, the lesser halves go ahead of the greater. -/
theorem cut_lt {a b : List ShiftV} (ha : ascP a) (hb : ascP b) {s e : Nat} (h : s = a.length ∨ e = 0 ∨ (e ≤ b.length ∧ (nth b ((e - 1 : Nat) : Int)).at' < (nth a (s : Nat)).at')) : ∀ x ∈ a.drop s, ∀ y ∈ b.take e, y.at' < x.at' := by
  intro x hx y hy
  obtain ⟨i, hi1, hi2, rfl⟩ := mem_drop hx
  obtain ⟨j, hj1, hj2, rfl⟩ := mem_take hy
  rcases h with h | h | ⟨h0, h⟩
  · omega
  · omega
  · have h1 := asc_nth ha hi1 hi2
    have h2 := asc_nth hb (show j ≤ e - 1 by omega) (by omega)
    omega
theorem cut_le {a b : List ShiftV} (ha : ascP a) (hb : ascP b) {s e : Nat} (h : s = 0 ∨ e = b.length ∨ (s ≤ a.length ∧ (nth a ((s - 1 : Nat) : Int)).at' ≤ (nth b (e : Nat)).at')) : ∀ x ∈ a.take s, ∀ y ∈ b.drop e, x.at' ≤ y.at' := by
  intro x hx y hy
  obtain ⟨i, hi1, hi2, rfl⟩ := mem_take hx
  obtain ⟨j, hj1, hj2, rfl⟩ := mem_drop hy
  rcases h with h | h | ⟨h0, h⟩
  · omega
  · omega
  · have h1 := asc_nth ha (show i ≤ s - 1 by omega) (by omega)
    have h2 := asc_nth hb hj1 hj2
    omega
/-- Two rows in order, cut and joined crosswise. -/
theorem cross {a b z1 z2 : List ShiftV} (ha : ascP a) (hb : ascP b) {s e : Nat} (h1 : ∀ x ∈ a.drop s, ∀ y ∈ b.take e, y.at' < x.at') (h2 : ∀ x ∈ a.take s, ∀ y ∈ b.drop e, x.at' ≤ y.at')
    (hz1 : ascP z1) (hk1 : sameK (a.take s ++ b.take e) z1) (hz2 : ascP z2) (hk2 : sameK (a.drop s ++ b.drop e) z2) : ascP (z1 ++ z2) ∧ sameK (a ++ b) (z1 ++ z2) := by
  have pa : ascP (a.take s ++ a.drop s) := by rw [List.take_append_drop]; exact ha
  have pb : ascP (b.take e ++ b.drop e) := by rw [List.take_append_drop]; exact hb
  have pa := (List.pairwise_append.1 pa).2.2
  have pb := (List.pairwise_append.1 pb).2.2
  constructor
  · refine asc_app hz1 hz2 fun x hx y hy => ?_
    rcases List.mem_append.1 (sameK_mem (sameK_sy hk1) hx) with hx | hx <;> rcases List.mem_append.1 (sameK_mem (sameK_sy hk2) hy) with hy | hy
    · exact pa x hx y hy
    · exact h2 x hx y hy
    · exact Int.le_of_lt (h1 y hy x hx)
    · exact pb x hx y hy
  · have e1 : a ++ b = a.take s ++ (a.drop s ++ b.take e) ++ b.drop e := by
      rw [← List.append_assoc, List.take_append_drop, List.append_assoc, List.take_append_drop]
    have e2 : (a.take s ++ b.take e) ++ (a.drop s ++ b.drop e) = a.take s ++ (b.take e ++ a.drop s) ++ b.drop e := by simp only [List.append_assoc]
    refine sameK_tr ?_ (sameK_app hk1 hk2)
    rw [e1, e2]
    exact sameK_app (sameK_app (sameK_refl _) (sameK_xch h1)) (sameK_refl _)

/-- Where a new one belongs. -/
def insW (o : List ShiftV) (x : ShiftV) : List ShiftV := o.filter (fun y => decide (y.at' ≤ x.at')) ++ x :: o.filter (fun y => decide (x.at' < y.at'))
/-- A row put in order. -/
def srt (l : List ShiftV) : List ShiftV := l.foldl insW []
theorem ins_place {o : List ShiftV} {x : ShiftV} {k : Nat} (h1 : ∀ y ∈ o.take k, y.at' ≤ x.at') (h2 : ∀ y ∈ o.drop k, x.at' < y.at') : insW o x = o.take k ++ x :: o.drop k := by
  have e : o = o.take k ++ o.drop k := (List.take_append_drop ..).symm
  have f1 : o.filter (fun y => decide (y.at' ≤ x.at')) = o.take k := by
    conv => lhs; rw [e]
    rw [List.filter_append, List.filter_eq_self.2 (fun y hy => decide_eq_true (h1 y hy)), List.filter_eq_nil_iff.2 (fun y hy hh => by have := h2 y hy; have := of_decide_eq_true hh; omega), List.append_nil]
  have f2 : o.filter (fun y => decide (x.at' < y.at')) = o.drop k := by
    conv => lhs; rw [e]
    rw [List.filter_append, List.filter_eq_self.2 (fun y hy => decide_eq_true (h2 y hy)), List.filter_eq_nil_iff.2 (fun y hy hh => by have := h1 y hy; have := of_decide_eq_true hh; omega), List.nil_append]
  rw [insW, f1, f2]
theorem ins_asc {o : List ShiftV} (x : ShiftV) (ho : ascP o) : ascP (insW o x) ∧ sameK (o ++ [x]) (insW o x) := by
  unfold insW
  constructor
  · refine asc_app (List.Pairwise.filter _ ho) (List.pairwise_cons.2 ⟨fun y hy => ?_, List.Pairwise.filter _ ho⟩) fun y hy z hz => ?_
    · have := of_decide_eq_true (List.mem_filter.1 hy).2
      omega
    · have h1 := of_decide_eq_true (List.mem_filter.1 hy).2
      rcases List.mem_cons.1 hz with rfl | hz
      · exact h1
      · have h2 := of_decide_eq_true (List.mem_filter.1 hz).2
        omega
  · intro k
    rw [ofK_app, ofK_app, show x :: o.filter (fun y => decide (x.at' < y.at')) = [x] ++ o.filter (fun y => decide (x.at' < y.at')) from rfl, ofK_app]
    by_cases hk : k ≤ x.at'
    · rw [ofK_nil (l := o.filter (fun y => decide (x.at' < y.at'))) (fun y hy => by have := of_decide_eq_true (List.mem_filter.1 hy).2; omega), List.append_nil]
      congr 1
      unfold ofK
      rw [List.filter_filter]
      refine List.filter_congr fun y _ => ?_
      by_cases hy : y.at' = k
      · simp [hy, hk]
      · simp [hy]
    · rw [ofK_nil (l := o.filter (fun y => decide (y.at' ≤ x.at'))) (fun y hy => by have := of_decide_eq_true (List.mem_filter.1 hy).2; omega), List.nil_append]
      rw [ofK_nil (l := [x]) (fun y hy => by rw [List.mem_singleton] at hy; rw [hy]; omega), List.append_nil, List.nil_append]
      unfold ofK
      rw [List.filter_filter]
      refine List.filter_congr fun y _ => ?_
      by_cases hy : y.at' = k
      · have : x.at' < k := by omega
        simp [hy, this]
      · simp [hy]
theorem srt_s (l : List ShiftV) (x : ShiftV) : srt (l ++ [x]) = insW (srt l) x := by rw [srt, List.foldl_append]; rfl
theorem srt_ok (l : List ShiftV) : ascP (srt l) ∧ sameK l (srt l) := by
  have : ∀ n, ascP (srt (l.take n)) ∧ sameK (l.take n) (srt (l.take n)) := by
    intro n
    induction n with
    | zero => exact ⟨List.Pairwise.nil, sameK_refl _⟩
    | succ n ih =>
      rcases Nat.lt_or_ge n l.length with h | h
      · have hs := ins_asc (nth l (n : Nat)) ih.1
        rw [take_nth h, srt_s]
        exact ⟨hs.1, sameK_tr (sameK_app ih.2 (sameK_refl _)) hs.2⟩
      · rw [List.take_of_length_le (by omega)] at ih ⊢
        exact ih
  have h := this l.length
  rwa [List.take_length] at h
theorem srt_len (l : List ShiftV) : (srt l).length = l.length := (sameK_len (srt_ok l).2).symm
theorem srt_of {l w : List ShiftV} (h1 : ascP w) (h2 : sameK l w) : w = srt l := stable_uniq h1 (srt_ok l).1 (sameK_tr (sameK_sy h2) (srt_ok l).2)

end Go.TL
