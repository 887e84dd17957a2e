/- Sources that are drawn right: the walk. No conditions but those that are written. -/
import Derived.Test.YtkecbkljfpebhaaX21
namespace Go.TL
set_option linter.unusedSimpArgs false
open Go.Proofs Go.RowKit
attribute [local irreducible] wpOpsT wpT EndT Ex.seq Ex.block W

theorem get_ru0 {l : List RuleV} {x : Int} (h : x.toNat < l.length) : (rowT ruleC l)[x.toNat * 9]? = some (.v (.int .i64 ((nth l x).name))) := by
  have h0 := row_cell (enc := ruleC) (l := l) (x := x) 0 h (by decide)
  rw [Nat.add_zero] at h0
  exact h0
theorem get_ru00 {l : List RuleV} {x : Int} (h : x.toNat < l.length) : (rowT ruleC l)[x.toNat * 9 + 0]? = some (.v (.int .i64 ((nth l x).name))) := get_ru0 h
theorem get_zo0 {l : List ZoneV} {x : Int} (h : x.toNat < l.length) : (rowT zoneC l)[x.toNat * 3]? = some (.v (.int .i64 ((nth l x).name))) := by
  have h0 := row_cell (enc := zoneC) (l := l) (x := x) 0 h (by decide)
  rw [Nat.add_zero] at h0
  exact h0
theorem get_zo00 {l : List ZoneV} {x : Int} (h : x.toNat < l.length) : (rowT zoneC l)[x.toNat * 3 + 0]? = some (.v (.int .i64 ((nth l x).name))) := get_zo0 h
theorem wrap_i32 {x : Int} (h : -2147483648 ≤ x ∧ x < 2147483648) : IntKind.i32.wrap x = x := by
  simp only [IntKind.wrap, IntKind.bits, IntKind.signed]
  simp
  omega
theorem b_add32 (P : Program) (t : TypeId) (xo yo : Operand) (a b : Int) : binT P .add t xo yo (.v (.int .i32 a)) (.v (.int .i32 b)) = some (.v (.int .i32 (IntKind.i32.wrap (a + b)))) := by simp [binT, toV, eqGuard, binOp, Op.intArith, ofV]
theorem pick_gF (p : Prop) [Decidable p] : pickT (.v (.bool (decide p))) (gT p (.v (.bool false))) (.v (.bool false)) = some (.v (.bool false)) := by by_cases h : p <;> simp [pickT, gT, h]
theorem pick_gTT (p : Prop) [Decidable p] : pickT (.v (.bool (decide p))) (gT p (.v (.bool true))) (.v (.bool false)) = some (.v (.bool (decide p))) := by by_cases h : p <;> simp [pickT, gT, h]
theorem ltT2 {a b : Int} (h : a < b) : (a < b) = True := eq_true h
theorem ltF2 {a b : Int} (h : ¬ a < b) : (a < b) = False := eq_false h

theorem ruF_ok {l : List Int} {f : Int × Int → RuleV × (Int × Int)} (hf : ∀ c, curP l c.1 → curP l (f c).2.1) : ∀ (k : Nat) (i : Int) (c : Int × Int) (o : List RuleV), curP l c.1 → o.length = i → i ≤ 4 → curP l (ruF l f k i c o).1.1 ∧ (ruF l f k i c o).2.length ≤ 4
  | 0, i, c, o, hc, h1, h2 => ⟨hc, by show o.length ≤ 4; omega⟩
  | k + 1, i, c, o, hc, h1, h2 => by
    have hb := bD_ok l 5 c hc (by omega)
    unfold ruF
    split
    · exact ruF_ok hf k (i + 1) _ _ (hf _ hb.2.1) (by rw [List.length_append, List.length_singleton]; omega) (by omega)
    · exact ⟨hb.2.1, by show o.length ≤ 4; omega⟩
theorem zrF_ok {l : List Int} {rules : List RuleV} (hr : rules.length ≤ 1000) (c : Int × Int) (hc : curP l c.1) : curP l (zrF l rules c).2.1 := by
  have h1 := oD_ok l 4 c hc (by omega)
  unfold zrF
  split
  · split
    · exact h1.1
    · exact (bD_ok l rules.length _ h1.1 (by omega)).2.1
  · exact hc
theorem zoF_ok {l : List Int} {rules : List RuleV} (hr : rules.length ≤ 1000) : ∀ (k : Nat) (i nm : Int) (c : Int × Int) (o : List ZoneV), curP l c.1 → o.length = i → i ≤ 3 → curP l (zoF l rules k i nm c o).1.1 ∧ (zoF l rules k i nm c o).2.length ≤ 3
  | 0, i, nm, c, o, hc, h1, h2 => ⟨hc, by show o.length ≤ 3; omega⟩
  | k + 1, i, nm, c, o, hc, h1, h2 => by
    have hb := bD_ok l 4 c hc (by omega)
    unfold zoF
    split
    · have h3 := bD_ok l 50 _ hb.2.1 (by omega)
      have h4 := bD_ok l 2 _ (zrF_ok hr _ h3.2.1) (by omega)
      exact zoF_ok hr k (i + 1) _ _ _ h4.2.1 (by rw [List.length_append, List.length_singleton]; omega) (by omega)
    · exact ⟨hb.2.1, by show o.length ≤ 3; omega⟩
theorem liF_ok {l : List Int} {zones : List ZoneV} (hz : zones.length ≤ 1000) : ∀ (k : Nat) (i : Int) (c : Int × Int) (o : List LinkV), curP l c.1 → o.length = i → i ≤ 2 → curP l (liF l zones k i c o).1.1 ∧ (liF l zones k i c o).2.length ≤ 2
  | 0, i, c, o, hc, h1, h2 => ⟨hc, by show o.length ≤ 2; omega⟩
  | k + 1, i, c, o, hc, h1, h2 => by
    have hb := bD_ok l 3 c hc (by omega)
    unfold liF
    split
    · rename_i h
      have h3 := bD_ok l zones.length _ hb.2.1 (by omega)
      exact liF_ok hz k (i + 1) _ _ h3.2.1 (by rw [List.length_append, List.length_singleton]; omega) (by omega)
    · exact ⟨hb.2.1, by show o.length ≤ 2; omega⟩
theorem fiF_ok {l : List Int} {f : Int × Int → RuleV × (Int × Int)} (hf : ∀ c, curP l c.1 → curP l (f c).2.1) : ∀ (k : Nat) (c : Int × Int) (o : List RuleV), curP l c.1 → o.length ≤ 20 → curP l (fiF f k c o).1.1 ∧ (fiF f k c o).2.length ≤ 20
  | 0, c, o, hc, h1 => ⟨hc, h1⟩
  | k + 1, c, o, hc, h1 => by
    unfold fiF
    split
    · exact fiF_ok hf k _ _ (hf _ hc) (by rw [List.length_append, List.length_singleton]; omega)
    · exact ⟨hc, h1⟩

theorem fi_any {f : Int × Int → RuleV × (Int × Int)} {c : Int × Int} {o : List RuleV} {R : (Int × Int) × List RuleV} (h : fiF f 21 c o = R) (hl : o.length ≤ 20) : fiF f (21 - o.length) c o = R := by
  have key : ∀ (k j : Nat) (c : Int × Int) (o : List RuleV), 21 ≤ k + o.length → 21 ≤ j + o.length → o.length ≤ 20 → fiF f k c o = fiF f j c o := by
    intro k
    induction k with
    | zero => intro j c o h1 h2 h3; omega
    | succ k ih =>
      intro j c o h1 h2 h3
      obtain ⟨j, rfl⟩ : ∃ i, j = i + 1 := ⟨j - 1, by omega⟩
      unfold fiF
      split
      · exact ih j _ _ (by rw [List.length_append, List.length_singleton]; omega) (by rw [List.length_append, List.length_singleton]; omega) (by rw [List.length_append, List.length_singleton]; omega)
      · rfl
  rw [← h]
  exact key _ _ _ _ (by omega) (by omega) hl

attribute [local go_sem] get_ru0 get_ru00 get_zo0 get_zo00 wrap_i32 b_add32 ltT2 ltF2 pick_gF pick_gTT

set_option linter.unusedSimpArgs false in
set_option maxHeartbeats 64000000 in
theorem right12_ex (l : List Int) (c0 : Int × Int) (hc0 : curP l c0.1) : ∃ (rules : List RuleV) (zones : List ZoneV) (links : List LinkV) (c' : Int × Int), curP l c'.1 ∧ (rules.length ≤ 20 ∧ zones.length ≤ 3 ∧ links.length ≤ 2) ∧ CallsT Try.prog [⟨0, true, [.sl false 0 l.length 1 (rowT u8C l), .v (.int .i64 c0.1), .v (.int .i64 c0.2)]⟩] F.spec_l12DrawRight [.ptr 0 [] 0] (rgT rules zones links) (rgS l c' rules zones links) := by
  obtain ⟨f, hf⟩ := Classical.axiomOfChoice (r := fun (c : Int × Int) (z : RuleV × (Int × Int)) => curP l c.1 → curP l z.2.1 ∧ CallsT Try.prog [⟨0, true, [.sl false 0 l.length 1 (rowT u8C l), .v (.int .i64 c.1), .v (.int .i64 c.2)]⟩] F.spec_l12DrawRule [.ptr 0 [] 0] (.agg (ruleC z.1)) [⟨0, true, [.sl false 0 l.length 1 (rowT u8C l), .v (.int .i64 z.2.1), .v (.int .i64 z.2.2)]⟩]) (fun c => by
    by_cases h : curP l c.1
    · obtain ⟨r, c', h1, h2⟩ := rule_ex l c h
      exact ⟨(r, c'), fun _ => ⟨h1, h2⟩⟩
    · exact ⟨(default, (0, 0)), fun h1 => absurd h1 h⟩)
  have hfc := fun c hc => (hf c hc).1
  have q1 := ruF_ok hfc 5 0 c0 [] hc0 rfl (by omega)
  generalize hR1 : ruF l f 5 0 c0 [] = R1 at q1
  obtain ⟨C1, rules⟩ := R1
  dsimp only at q1
  have q2 := zoF_ok (rules := rules) (by omega) 4 0 65 C1 [] q1.1 rfl (by omega)
  generalize hR2 : zoF l rules 4 0 65 C1 [] = R2 at q2
  obtain ⟨C2, zones⟩ := R2
  dsimp only at q2
  have q3 := liF_ok (zones := zones) (by omega) 3 0 C2 [] q2.1 rfl (by omega)
  generalize hR3 : liF l zones 3 0 C2 [] = R3 at q3
  obtain ⟨C3, links⟩ := R3
  dsimp only at q3
  have q4 := oD_ok l 20 C3 q3.1 (by omega)
  generalize hR4 : oD l 20 C3 = R4 at q4
  obtain ⟨B4, C4⟩ := R4
  dsimp only at q4
  have q5 := fiF_ok hfc 21 C4 rules q4.1 (by omega)
  generalize hR5 : fiF f 21 C4 rules = R5 at q5
  obtain ⟨C5, rules2⟩ := R5
  dsimp only at q5
  refine ⟨if B4 = true then rules2 else rules, zones, links, if B4 = true then C5 else C4, by split; exact q5.1; exact q4.1, ⟨by split <;> omega, by omega, by omega⟩, ?_⟩
  refine fnT C.spec_l12DrawRight ?_
  refine run ?_
  refine r_loop_of (σ := Nat × (Int × Int) × List RuleV) (fun s => [(0, .ptr 0 [] 0), (2, .ptr 1 [] 0), (3, .ptr 2 [] 0), (4, .v (.int .i64 ((s.1 : Nat))))]) (fun s => rgG l s.2.1 s.2.2 [] []) (fun s => s.1 ≤ 4 ∧ curP l s.2.1.1 ∧ s.2.2.length = s.1 ∧ ruF l f (5 - s.1) (s.1 : Nat) s.2.1 s.2.2 = (C1, rules)) (fun s => 5 - s.1) (0, c0, []) [0, 1, 2] [] ⟨by dsimp only; omega, hc0, rfl, hR1⟩ Gc.of ?_
  clear hR1
  rintro ⟨i, c, o⟩ ⟨h1, h2, h3, h4⟩
  dsimp only at h1 h2 h3 h4 ⊢
  have hb := bD_ok l 5 c h2 (by omega)
  have hfx := hf _ hb.2.1
  obtain ⟨m, hm⟩ : ∃ m, 5 - i = m + 1 := ⟨4 - i, by omega⟩
  rw [hm, ruF] at h4
  generalize f (bD l 5 c).2 = z at *
  obtain ⟨r, c2⟩ := z
  generalize bD l 5 c = w at *
  obtain ⟨v, c1⟩ := w
  dsimp only at hb hfx h4
  dsimp only [ruleC] at hfx
  cases o with
  | nil =>
    dsimp only [rgG]
    refine runC ?_
    refine r_call1p 0 hb.2.2 ?_
    refine runC ?_
    refine r_ifd (fun hlt => ?_) (fun hlt => ?_)
    · rw [if_pos hlt] at h4
      refine runC ?_
      refine r_call1p 0 hfx.2 ?_
      refine runC ?_
      refine r_apz ?_
      refine runC ?_
      exact ⟨(i + 1, c2, [r]), [0, 1, 2, 4], [], Gc.of, by dsimp only; omega, by dsimp only; omega, hfx.1, by simp only [List.length_cons, List.length_append, List.length_nil] at h3 ⊢; omega, by dsimp only; rw [show 5 - (i + 1) = m by omega]; exact h4⟩
    · rw [if_neg hlt] at h4
      cases h4
      refine run ?_
      refine r_loop_of (σ := Nat × Int × (Int × Int) × List ZoneV) (fun s => [(0, .ptr 0 [] 0), (2, .ptr 1 [] 0), (3, .ptr 2 [] 0), (5, .v (.int .i32 s.2.1)), (6, .v (.int .i64 ((s.1 : Nat))))]) (fun s => rgG l s.2.2.1 [] s.2.2.2 []) (fun s => s.1 ≤ 3 ∧ curP l s.2.2.1.1 ∧ s.2.2.2.length = s.1 ∧ zoF l [] (4 - s.1) (s.1 : Nat) s.2.1 s.2.2.1 s.2.2.2 = (C2, zones) ∧ (65 ≤ s.2.1 ∧ s.2.1 ≤ 65 + 2 * (s.1 : Int))) (fun s => 4 - s.1) (0, 65, C1, []) [0, 1, 2] [] ⟨by dsimp only; omega, q1.1, rfl, hR2, by dsimp only; omega⟩ Gc.of ?_
      clear hR2
      rintro ⟨i, nm, c, o⟩ ⟨h1, h2, h3, h4, h5⟩
      dsimp only at h1 h2 h3 h4 h5 ⊢
      have hb := bD_ok l 4 c h2 (by omega)
      have hb2 := bD_ok l 50 _ hb.2.1 (by omega)
      obtain ⟨m, hm⟩ : ∃ m, 4 - i = m + 1 := ⟨3 - i, by omega⟩
      rw [hm, zoF] at h4
      have hzr : zrF l [] (bD l 50 (bD l 4 c).2).2 = (0, (bD l 50 (bD l 4 c).2).2) := if_neg (by simp)
      have hzc := zrF_ok (l := l) (rules := []) (by simp) _ hb2.2.1
      have hb4 := bD_ok l 2 _ hzc (by omega)
      generalize bD l 2 (zrF l [] (bD l 50 (bD l 4 c).2).2).2 = w4 at *
      obtain ⟨n4, c4⟩ := w4
      generalize zrF l [] (bD l 50 (bD l 4 c).2).2 = w3 at *
      obtain ⟨ru, c3⟩ := w3
      generalize bD l 50 (bD l 4 c).2 = w2 at *
      obtain ⟨n2, c2⟩ := w2
      generalize bD l 4 c = w1 at *
      obtain ⟨v, c1⟩ := w1
      dsimp only at hb hb2 hb4 h4 hzr hzc
      cases o with
      | nil =>
        dsimp only [rgG]
        refine runC ?_
        refine r_call1p 0 hb.2.2 ?_
        refine runC ?_
        refine r_ifd (fun hlt => ?_) (fun hlt => ?_)
        · rw [if_pos hlt] at h4
          refine runC ?_
          refine r_call1p 0 hb2.2.2 ?_
          cases hzr
          refine runC ?_
          refine r_apz ?_
          refine runC ?_
          refine r_call1p 0 hb4.2.2 ?_
          refine runC ?_
          exact ⟨(i + 1, nm + 1 + n4, c4, [⟨nm, 30 * n2 - 720, 0⟩]), [0, 1, 2, 5], [], Gc.of, by dsimp only; omega, by dsimp only; omega, hb4.2.1, by simp only [List.length_cons, List.length_append, List.length_nil] at h3 ⊢; omega, by dsimp only; rw [show 4 - (i + 1) = m by omega]; exact h4, by dsimp only; omega⟩
        · rw [if_neg hlt] at h4
          cases h4
          refine run ?_
          refine r_loop_of (σ := Int × Int) (fun s => [(0, .ptr 0 [] 0), (2, .ptr 1 [] 0), (3, .ptr 2 [] 0), (8, .v (.int .i64 0))]) (fun s => rgG l s [] [] []) (fun s => curP l s.1 ∧ liF l [] 3 0 s [] = (C3, links)) (fun _ => 0) C2 [0, 1, 2] [] ⟨q2.1, hR3⟩ Gc.of ?_
          clear hR3
          rintro c ⟨h2, h4⟩
          have hb := bD_ok l 3 c h2 (by omega)
          rw [liF] at h4
          generalize bD l 3 c = w at *
          obtain ⟨v, c1⟩ := w
          dsimp only at hb h4
          rw [if_neg (fun hh => by have := hh.2; simp at this)] at h4
          cases h4
          dsimp only [rgG]
          refine runC ?_
          refine r_call1p 0 hb.2.2 ?_
          by_cases hlt : (0 : Int) < v
          · refine runC ?_
            refine runC ?_
            refine r_call1p 0 q4.2 ?_
            cases B4 with
            | false =>
              simp only [Bool.false_eq_true, if_false]
              dsimp only [rgT, rgS]
              refine run ?_
              exact r_end [0] []
            | true =>
              simp only [if_true]
              refine runC ?_
              refine r_loop_of (σ := (Int × Int) × List RuleV) (fun s => [(0, .ptr 0 [] 0), (2, .ptr 1 [] 0), (3, .ptr 2 [] 0)]) (fun s => rgG l s.1 s.2 [] []) (fun s => curP l s.1.1 ∧ s.2.length ≤ 20 ∧ fiF f (21 - s.2.length) s.1 s.2 = (C5, rules2)) (fun s => 20 - s.2.length) (C4, []) [0, 1, 2] [] ⟨q4.1, by first | exact Nat.zero_le _ | (simp only [List.length_cons] at q1 ⊢; omega), fi_any hR5 (by first | exact Nat.zero_le _ | (simp only [List.length_cons] at q1 ⊢; omega))⟩ Gc.of ?_
              rintro ⟨c, o⟩ ⟨h1, h2, h3⟩
              dsimp only at h1 h2 h3 ⊢
              have hfx := hf c h1
              obtain ⟨m, hm⟩ : ∃ m, 21 - o.length = m + 1 := ⟨20 - o.length, by omega⟩
              rw [hm, fiF] at h3
              generalize f c = z at *
              obtain ⟨r, c2⟩ := z
              dsimp only at hfx h3
              dsimp only [ruleC] at hfx
              cases o with
              | nil =>
                rw [if_pos (by simp)] at h3
                dsimp only [rgG]
                refine runC ?_
                refine r_call1p 0 hfx.2 ?_
                refine runC ?_
                refine r_apz ?_
                refine runC ?_
                exact ⟨(c2, [r]), [0, 1, 2, 4], [], Gc.of, by simp, hfx.1, by simp, by simpa [show m = 20 by simpa using hm.symm] using h3⟩
              | cons x xs =>
                dsimp only [rgG]
                refine runC ?_
                refine r_ifd (fun hlt => ?_) (fun hlt => ?_)
                · rw [if_pos (show (((x :: xs).length : Nat) : Int) < 20 by simp only [List.length_cons] at hlt ⊢; omega)] at h3
                  simp only [List.length_cons] at hm h2
                  refine runC ?_
                  refine r_call1p 0 hfx.2 ?_
                  refine runC ?_
                  exact ⟨(c2, x :: (xs ++ [r])), [0, 1, 2, 5], [], Gc.of, by simp only [List.length_cons, List.length_append, List.length_nil]; omega, hfx.1, by simp only [List.length_cons, List.length_append, List.length_nil]; omega, by simp only [List.length_cons, List.length_append, List.length_nil]; rw [show 21 - (xs.length + (0 + 1) + 1) = m by omega]; exact h3⟩
                · rw [if_neg (show ¬ (((x :: xs).length : Nat) : Int) < 20 by simp only [List.length_cons] at hlt ⊢; omega)] at h3
                  cases h3
                  dsimp only [rgT, rgS]
                  refine run ?_
                  exact r_end [0, 3] []
          · refine runC ?_
            refine runC ?_
            refine r_call1p 0 q4.2 ?_
            cases B4 with
            | false =>
              simp only [Bool.false_eq_true, if_false]
              dsimp only [rgT, rgS]
              refine run ?_
              exact r_end [0] []
            | true =>
              simp only [if_true]
              refine runC ?_
              refine r_loop_of (σ := (Int × Int) × List RuleV) (fun s => [(0, .ptr 0 [] 0), (2, .ptr 1 [] 0), (3, .ptr 2 [] 0)]) (fun s => rgG l s.1 s.2 [] []) (fun s => curP l s.1.1 ∧ s.2.length ≤ 20 ∧ fiF f (21 - s.2.length) s.1 s.2 = (C5, rules2)) (fun s => 20 - s.2.length) (C4, []) [0, 1, 2] [] ⟨q4.1, by first | exact Nat.zero_le _ | (simp only [List.length_cons] at q1 ⊢; omega), fi_any hR5 (by first | exact Nat.zero_le _ | (simp only [List.length_cons] at q1 ⊢; omega))⟩ Gc.of ?_
              rintro ⟨c, o⟩ ⟨h1, h2, h3⟩
              dsimp only at h1 h2 h3 ⊢
              have hfx := hf c h1
              obtain ⟨m, hm⟩ : ∃ m, 21 - o.length = m + 1 := ⟨20 - o.length, by omega⟩
              rw [hm, fiF] at h3
              generalize f c = z at *
              obtain ⟨r, c2⟩ := z
              dsimp only at hfx h3
              dsimp only [ruleC] at hfx
              cases o with
              | nil =>
                rw [if_pos (by simp)] at h3
                dsimp only [rgG]
                refine runC ?_
                refine r_call1p 0 hfx.2 ?_
                refine runC ?_
                refine r_apz ?_
                refine runC ?_
                exact ⟨(c2, [r]), [0, 1, 2, 4], [], Gc.of, by simp, hfx.1, by simp, by simpa [show m = 20 by simpa using hm.symm] using h3⟩
              | cons x xs =>
                dsimp only [rgG]
                refine runC ?_
                refine r_ifd (fun hlt => ?_) (fun hlt => ?_)
                · rw [if_pos (show (((x :: xs).length : Nat) : Int) < 20 by simp only [List.length_cons] at hlt ⊢; omega)] at h3
                  simp only [List.length_cons] at hm h2
                  refine runC ?_
                  refine r_call1p 0 hfx.2 ?_
                  refine runC ?_
                  exact ⟨(c2, x :: (xs ++ [r])), [0, 1, 2, 5], [], Gc.of, by simp only [List.length_cons, List.length_append, List.length_nil]; omega, hfx.1, by simp only [List.length_cons, List.length_append, List.length_nil]; omega, by simp only [List.length_cons, List.length_append, List.length_nil]; rw [show 21 - (xs.length + (0 + 1) + 1) = m by omega]; exact h3⟩
                · rw [if_neg (show ¬ (((x :: xs).length : Nat) : Int) < 20 by simp only [List.length_cons] at hlt ⊢; omega)] at h3
                  cases h3
                  dsimp only [rgT, rgS]
                  refine run ?_
                  exact r_end [0, 3] []
      | cons y ys =>
        dsimp only [rgG]
        refine runC ?_
        refine r_call1p 0 hb.2.2 ?_
        refine runC ?_
        refine r_ifd (fun hlt => ?_) (fun hlt => ?_)
        · rw [if_pos hlt] at h4
          refine runC ?_
          refine r_call1p 0 hb2.2.2 ?_
          cases hzr
          refine runC ?_
          refine r_app (enc := zoneC) (y :: ys) [⟨nm, 30 * n2 - 720, 0⟩] (by simp only [List.length_cons, List.length_nil] at h3 ⊢; omega) ?_
          refine runC ?_
          refine r_call1p 0 hb4.2.2 ?_
          refine runC ?_
          exact ⟨(i + 1, nm + 1 + n4, c4, y :: (ys ++ [(⟨nm, 30 * n2 - 720, 0⟩ : ZoneV)])), [0, 1, 2, 6], [], Gc.of, by dsimp only; omega, by dsimp only; omega, hb4.2.1, by simp only [List.length_cons, List.length_append, List.length_nil] at h3 ⊢; omega, by dsimp only; rw [show 4 - (i + 1) = m by omega]; exact h4, by dsimp only; omega⟩
        · rw [if_neg hlt] at h4
          cases h4
          refine run ?_
          refine r_loop_of (σ := Nat × (Int × Int) × List LinkV) (fun s => [(0, .ptr 0 [] 0), (2, .ptr 1 [] 0), (3, .ptr 2 [] 0), (8, .v (.int .i64 ((s.1 : Nat))))]) (fun s => rgG l s.2.1 [] (y :: ys) s.2.2) (fun s => s.1 ≤ 2 ∧ curP l s.2.1.1 ∧ s.2.2.length = s.1 ∧ liF l (y :: ys) (3 - s.1) (s.1 : Nat) s.2.1 s.2.2 = (C3, links)) (fun s => 3 - s.1) (0, C2, []) [0, 1, 2, 3] [] ⟨by dsimp only; omega, q2.1, rfl, hR3⟩ Gc.of ?_
          clear hR3
          rintro ⟨i, c, o⟩ ⟨h1, h2, h3, h4⟩
          dsimp only at h1 h2 h3 h4 ⊢
          have hb := bD_ok l 3 c h2 (by omega)
          obtain ⟨m, hm⟩ : ∃ m, 3 - i = m + 1 := ⟨2 - i, by omega⟩
          rw [hm, liF] at h4
          have hzl : (y :: ys).length ≤ 3 := q2.2
          simp only [List.length_cons] at hzl
          have hb2 := bD_ok l ((y :: ys).length : Nat) _ hb.2.1 (by simp only [List.length_cons]; omega)
          generalize bD l ((y :: ys).length : Nat) (bD l 3 c).2 = u at *
          obtain ⟨x2, c2⟩ := u
          generalize bD l 3 c = w at *
          obtain ⟨v, c1⟩ := w
          dsimp only at hb hb2 h4
          have hx2 := hb2.1
          simp only [List.length_cons] at hx2
          cases o with
          | nil =>
            dsimp only [rgG]
            refine runC ?_
            refine r_call1p 0 hb.2.2 ?_
            by_cases hlt : (i : Int) < v
            · rw [if_pos ⟨hlt, by simp only [List.length_cons]; omega⟩] at h4
              refine runC ?_
              refine r_call1p 0 hb2.2.2 ?_
              refine runC ?_
              refine r_apz ?_
              refine runC ?_
              exact ⟨(i + 1, c2, [⟨84 + (i : Int), (nth (y :: ys) x2).name⟩]), [0, 1, 2, 3, 5], [], Gc.of, by dsimp only; omega, by dsimp only; omega, hb2.2.1, by simp only [List.length_cons, List.length_append, List.length_nil] at h3 ⊢; omega, by dsimp only; rw [show 3 - (i + 1) = m by omega]; exact h4⟩
            · rw [if_neg (fun hh => hlt hh.1)] at h4
              cases h4
              refine runC ?_
              refine runC ?_
              refine r_call1p 0 q4.2 ?_
              cases B4 with
              | false =>
                simp only [Bool.false_eq_true, if_false]
                dsimp only [rgT, rgS]
                refine run ?_
                exact r_end [0, 3] []
              | true =>
                simp only [if_true]
                refine runC ?_
                refine r_loop_of (σ := (Int × Int) × List RuleV) (fun s => [(0, .ptr 0 [] 0), (2, .ptr 1 [] 0), (3, .ptr 2 [] 0)]) (fun s => rgG l s.1 s.2 (y :: ys) []) (fun s => curP l s.1.1 ∧ s.2.length ≤ 20 ∧ fiF f (21 - s.2.length) s.1 s.2 = (C5, rules2)) (fun s => 20 - s.2.length) (C4, []) [0, 1, 2, 3] [] ⟨q4.1, by first | exact Nat.zero_le _ | (simp only [List.length_cons] at q1 ⊢; omega), fi_any hR5 (by first | exact Nat.zero_le _ | (simp only [List.length_cons] at q1 ⊢; omega))⟩ Gc.of ?_
                rintro ⟨c, o⟩ ⟨h1, h2, h3⟩
                dsimp only at h1 h2 h3 ⊢
                have hfx := hf c h1
                obtain ⟨m, hm⟩ : ∃ m, 21 - o.length = m + 1 := ⟨20 - o.length, by omega⟩
                rw [hm, fiF] at h3
                generalize f c = z at *
                obtain ⟨r, c2⟩ := z
                dsimp only at hfx h3
                dsimp only [ruleC] at hfx
                cases o with
                | nil =>
                  rw [if_pos (by simp)] at h3
                  dsimp only [rgG]
                  refine runC ?_
                  refine r_call1p 0 hfx.2 ?_
                  refine runC ?_
                  refine r_apz ?_
                  refine runC ?_
                  exact ⟨(c2, [r]), [0, 1, 2, 5, 3], [], Gc.of, by simp, hfx.1, by simp, by simpa [show m = 20 by simpa using hm.symm] using h3⟩
                | cons x xs =>
                  dsimp only [rgG]
                  refine runC ?_
                  refine r_ifd (fun hlt => ?_) (fun hlt => ?_)
                  · rw [if_pos (show (((x :: xs).length : Nat) : Int) < 20 by simp only [List.length_cons] at hlt ⊢; omega)] at h3
                    simp only [List.length_cons] at hm h2
                    refine runC ?_
                    refine r_call1p 0 hfx.2 ?_
                    refine runC ?_
                    exact ⟨(c2, x :: (xs ++ [r])), [0, 1, 2, 6, 4], [], Gc.of, by simp only [List.length_cons, List.length_append, List.length_nil]; omega, hfx.1, by simp only [List.length_cons, List.length_append, List.length_nil]; omega, by simp only [List.length_cons, List.length_append, List.length_nil]; rw [show 21 - (xs.length + (0 + 1) + 1) = m by omega]; exact h3⟩
                  · rw [if_neg (show ¬ (((x :: xs).length : Nat) : Int) < 20 by simp only [List.length_cons] at hlt ⊢; omega)] at h3
                    cases h3
                    dsimp only [rgT, rgS]
                    refine run ?_
                    exact r_end [0, 3, 4] []
          | cons q qs =>
            dsimp only [rgG]
            refine runC ?_
            refine r_call1p 0 hb.2.2 ?_
            by_cases hlt : (i : Int) < v
            · rw [if_pos ⟨hlt, by simp only [List.length_cons]; omega⟩] at h4
              refine runC ?_
              refine r_call1p 0 hb2.2.2 ?_
              refine runC ?_
              refine r_app (enc := linkC) (q :: qs) [⟨84 + (i : Int), (nth (y :: ys) x2).name⟩] (by simp only [List.length_cons, List.length_nil] at h3 ⊢; omega) ?_
              refine runC ?_
              exact ⟨(i + 1, c2, q :: (qs ++ [(⟨84 + (i : Int), (nth (y :: ys) x2).name⟩ : LinkV)])), [0, 1, 2, 3, 6], [], Gc.of, by dsimp only; omega, by dsimp only; omega, hb2.2.1, by simp only [List.length_cons, List.length_append, List.length_nil] at h3 ⊢; omega, by dsimp only; rw [show 3 - (i + 1) = m by omega]; exact h4⟩
            · rw [if_neg (fun hh => hlt hh.1)] at h4
              cases h4
              refine runC ?_
              refine runC ?_
              refine r_call1p 0 q4.2 ?_
              cases B4 with
              | false =>
                simp only [Bool.false_eq_true, if_false]
                dsimp only [rgT, rgS]
                refine run ?_
                exact r_end [0, 3, 4] []
              | true =>
                simp only [if_true]
                refine runC ?_
                refine r_loop_of (σ := (Int × Int) × List RuleV) (fun s => [(0, .ptr 0 [] 0), (2, .ptr 1 [] 0), (3, .ptr 2 [] 0)]) (fun s => rgG l s.1 s.2 (y :: ys) (q :: qs)) (fun s => curP l s.1.1 ∧ s.2.length ≤ 20 ∧ fiF f (21 - s.2.length) s.1 s.2 = (C5, rules2)) (fun s => 20 - s.2.length) (C4, []) [0, 1, 2, 3, 4] [] ⟨q4.1, by first | exact Nat.zero_le _ | (simp only [List.length_cons] at q1 ⊢; omega), fi_any hR5 (by first | exact Nat.zero_le _ | (simp only [List.length_cons] at q1 ⊢; omega))⟩ Gc.of ?_
                rintro ⟨c, o⟩ ⟨h1, h2, h3⟩
                dsimp only at h1 h2 h3 ⊢
                have hfx := hf c h1
                obtain ⟨m, hm⟩ : ∃ m, 21 - o.length = m + 1 := ⟨20 - o.length, by omega⟩
                rw [hm, fiF] at h3
                generalize f c = z at *
                obtain ⟨r, c2⟩ := z
                dsimp only at hfx h3
                dsimp only [ruleC] at hfx
                cases o with
                | nil =>
                  rw [if_pos (by simp)] at h3
                  dsimp only [rgG]
                  refine runC ?_
                  refine r_call1p 0 hfx.2 ?_
                  refine runC ?_
                  refine r_apz ?_
                  refine runC ?_
                  exact ⟨(c2, [r]), [0, 1, 2, 6, 3, 4], [], Gc.of, by simp, hfx.1, by simp, by simpa [show m = 20 by simpa using hm.symm] using h3⟩
                | cons x xs =>
                  dsimp only [rgG]
                  refine runC ?_
                  refine r_ifd (fun hlt => ?_) (fun hlt => ?_)
                  · rw [if_pos (show (((x :: xs).length : Nat) : Int) < 20 by simp only [List.length_cons] at hlt ⊢; omega)] at h3
                    simp only [List.length_cons] at hm h2
                    refine runC ?_
                    refine r_call1p 0 hfx.2 ?_
                    refine runC ?_
                    exact ⟨(c2, x :: (xs ++ [r])), [0, 1, 2, 7, 4, 5], [], Gc.of, by simp only [List.length_cons, List.length_append, List.length_nil]; omega, hfx.1, by simp only [List.length_cons, List.length_append, List.length_nil]; omega, by simp only [List.length_cons, List.length_append, List.length_nil]; rw [show 21 - (xs.length + (0 + 1) + 1) = m by omega]; exact h3⟩
                  · rw [if_neg (show ¬ (((x :: xs).length : Nat) : Int) < 20 by simp only [List.length_cons] at hlt ⊢; omega)] at h3
                    cases h3
                    dsimp only [rgT, rgS]
                    refine run ?_
                    exact r_end [0, 3, 4, 5] []
  | cons x xs =>
    dsimp only [rgG]
    refine runC ?_
    refine r_call1p 0 hb.2.2 ?_
    refine runC ?_
    refine r_ifd (fun hlt => ?_) (fun hlt => ?_)
    · rw [if_pos hlt] at h4
      refine runC ?_
      refine r_call1p 0 hfx.2 ?_
      refine runC ?_
      refine r_app (enc := ruleC) (x :: xs) [r] (by simp only [List.length_cons, List.length_nil] at h3 ⊢; omega) ?_
      refine runC ?_
      exact ⟨(i + 1, c2, x :: (xs ++ [r])), [0, 1, 2, 5], [], Gc.of, by dsimp only; omega, by dsimp only; omega, hfx.1, by simp only [List.length_cons, List.length_append, List.length_nil] at h3 ⊢; omega, by dsimp only; rw [show 5 - (i + 1) = m by omega]; exact h4⟩
    · rw [if_neg hlt] at h4
      cases h4
      refine run ?_
      refine r_loop_of (σ := Nat × Int × (Int × Int) × List ZoneV) (fun s => [(0, .ptr 0 [] 0), (2, .ptr 1 [] 0), (3, .ptr 2 [] 0), (5, .v (.int .i32 s.2.1)), (6, .v (.int .i64 ((s.1 : Nat))))]) (fun s => rgG l s.2.2.1 (x :: xs) s.2.2.2 []) (fun s => s.1 ≤ 3 ∧ curP l s.2.2.1.1 ∧ s.2.2.2.length = s.1 ∧ zoF l (x :: xs) (4 - s.1) (s.1 : Nat) s.2.1 s.2.2.1 s.2.2.2 = (C2, zones) ∧ (65 ≤ s.2.1 ∧ s.2.1 ≤ 65 + 2 * (s.1 : Int))) (fun s => 4 - s.1) (0, 65, C1, []) [0, 1, 2, 3] [] ⟨by dsimp only; omega, q1.1, rfl, hR2, by dsimp only; omega⟩ Gc.of ?_
      clear hR2
      rintro ⟨i, nm, c, o⟩ ⟨h1, h2, h3, h4, h5⟩
      dsimp only at h1 h2 h3 h4 h5 ⊢
      have hb := bD_ok l 4 c h2 (by omega)
      have hb2 := bD_ok l 50 _ hb.2.1 (by omega)
      obtain ⟨m, hm⟩ : ∃ m, 4 - i = m + 1 := ⟨3 - i, by omega⟩
      rw [hm, zoF] at h4
      have hrl : (x :: xs).length ≤ 20 := by omega
      simp only [List.length_cons] at hrl
      have ho := oD_ok l 4 _ hb2.2.1 (by omega)
      have hb3 := bD_ok l ((x :: xs).length : Nat) _ ho.1 (by simp only [List.length_cons]; omega)
      have hzr : zrF l (x :: xs) (bD l 50 (bD l 4 c).2).2 = (if (oD l 4 (bD l 50 (bD l 4 c).2).2).1 = true then (0, (oD l 4 (bD l 50 (bD l 4 c).2).2).2) else ((nth (x :: xs) (bD l ((x :: xs).length : Nat) (oD l 4 (bD l 50 (bD l 4 c).2).2).2).1).name, (bD l ((x :: xs).length : Nat) (oD l 4 (bD l 50 (bD l 4 c).2).2).2).2)) := if_pos (by simp)
      have hzc := zrF_ok (l := l) (rules := x :: xs) (by simp only [List.length_cons]; omega) _ hb2.2.1
      have hb4 := bD_ok l 2 _ hzc (by omega)
      generalize bD l 2 (zrF l (x :: xs) (bD l 50 (bD l 4 c).2).2).2 = w4 at *
      obtain ⟨n4, c4⟩ := w4
      generalize zrF l (x :: xs) (bD l 50 (bD l 4 c).2).2 = w3 at *
      obtain ⟨ru, c3⟩ := w3
      generalize bD l ((x :: xs).length : Nat) (oD l 4 (bD l 50 (bD l 4 c).2).2).2 = u3 at *
      obtain ⟨x3, d3⟩ := u3
      generalize oD l 4 (bD l 50 (bD l 4 c).2).2 = u2 at *
      obtain ⟨bb, d2⟩ := u2
      generalize bD l 50 (bD l 4 c).2 = w2 at *
      obtain ⟨n2, c2⟩ := w2
      generalize bD l 4 c = w1 at *
      obtain ⟨v, c1⟩ := w1
      dsimp only at hb hb2 hb4 h4 hzr hzc
      dsimp only at ho hb3
      have hx3 := hb3.1
      simp only [List.length_cons] at hx3
      cases o with
      | nil =>
        dsimp only [rgG]
        refine runC ?_
        refine r_call1p 0 hb.2.2 ?_
        refine runC ?_
        refine r_ifd (fun hlt => ?_) (fun hlt => ?_)
        · rw [if_pos hlt] at h4
          refine runC ?_
          refine r_call1p 0 hb2.2.2 ?_
          refine runC ?_
          refine r_call1p 0 ho.2 ?_
          cases bb with
          | true =>
            simp only [if_true] at hzr
            cases hzr
            refine runC ?_
            refine r_apz ?_
            refine runC ?_
            refine r_call1p 0 hb4.2.2 ?_
            refine runC ?_
            exact ⟨(i + 1, nm + 1 + n4, c4, [⟨nm, 30 * n2 - 720, 0⟩]), [0, 1, 2, 3, 6], [], Gc.of, by dsimp only; omega, by dsimp only; omega, hb4.2.1, by simp only [List.length_cons, List.length_append, List.length_nil] at h3 ⊢; omega, by dsimp only; rw [show 4 - (i + 1) = m by omega]; exact h4, by dsimp only; omega⟩
          | false =>
            simp only [Bool.false_eq_true, if_false] at hzr
            cases hzr
            refine runC ?_
            refine r_call1p 0 hb3.2.2 ?_
            refine runC ?_
            refine r_apz ?_
            refine runC ?_
            refine r_call1p 0 hb4.2.2 ?_
            refine runC ?_
            exact ⟨(i + 1, nm + 1 + n4, c4, [⟨nm, 30 * n2 - 720, (nth (x :: xs) x3).name⟩]), [0, 1, 2, 3, 6], [], Gc.of, by dsimp only; omega, by dsimp only; omega, hb4.2.1, by simp only [List.length_cons, List.length_append, List.length_nil] at h3 ⊢; omega, by dsimp only; rw [show 4 - (i + 1) = m by omega]; exact h4, by dsimp only; omega⟩
        · rw [if_neg hlt] at h4
          cases h4
          refine run ?_
          refine r_loop_of (σ := Int × Int) (fun s => [(0, .ptr 0 [] 0), (2, .ptr 1 [] 0), (3, .ptr 2 [] 0), (8, .v (.int .i64 0))]) (fun s => rgG l s (x :: xs) [] []) (fun s => curP l s.1 ∧ liF l [] 3 0 s [] = (C3, links)) (fun _ => 0) C2 [0, 1, 2, 3] [] ⟨q2.1, hR3⟩ Gc.of ?_
          clear hR3
          rintro c ⟨h2, h4⟩
          have hb := bD_ok l 3 c h2 (by omega)
          rw [liF] at h4
          generalize bD l 3 c = w at *
          obtain ⟨v, c1⟩ := w
          dsimp only at hb h4
          rw [if_neg (fun hh => by have := hh.2; simp at this)] at h4
          cases h4
          dsimp only [rgG]
          refine runC ?_
          refine r_call1p 0 hb.2.2 ?_
          by_cases hlt : (0 : Int) < v
          · refine runC ?_
            refine runC ?_
            refine r_call1p 0 q4.2 ?_
            cases B4 with
            | false =>
              simp only [Bool.false_eq_true, if_false]
              dsimp only [rgT, rgS]
              refine run ?_
              exact r_end [0, 3] []
            | true =>
              simp only [if_true]
              refine runC ?_
              refine r_loop_of (σ := (Int × Int) × List RuleV) (fun s => [(0, .ptr 0 [] 0), (2, .ptr 1 [] 0), (3, .ptr 2 [] 0)]) (fun s => rgG l s.1 s.2 [] []) (fun s => curP l s.1.1 ∧ s.2.length ≤ 20 ∧ fiF f (21 - s.2.length) s.1 s.2 = (C5, rules2)) (fun s => 20 - s.2.length) (C4, (x :: xs)) [0, 1, 2, 3] [] ⟨q4.1, by first | exact Nat.zero_le _ | (simp only [List.length_cons] at q1 ⊢; omega), fi_any hR5 (by first | exact Nat.zero_le _ | (simp only [List.length_cons] at q1 ⊢; omega))⟩ Gc.of ?_
              rintro ⟨c, o⟩ ⟨h1, h2, h3⟩
              dsimp only at h1 h2 h3 ⊢
              have hfx := hf c h1
              obtain ⟨m, hm⟩ : ∃ m, 21 - o.length = m + 1 := ⟨20 - o.length, by omega⟩
              rw [hm, fiF] at h3
              generalize f c = z at *
              obtain ⟨r, c2⟩ := z
              dsimp only at hfx h3
              dsimp only [ruleC] at hfx
              cases o with
              | nil =>
                rw [if_pos (by simp)] at h3
                dsimp only [rgG]
                refine runC ?_
                refine r_call1p 0 hfx.2 ?_
                refine runC ?_
                refine r_apz ?_
                refine runC ?_
                exact ⟨(c2, [r]), [0, 1, 2, 4], [], Gc.of, by simp, hfx.1, by simp, by simpa [show m = 20 by simpa using hm.symm] using h3⟩
              | cons x xs =>
                dsimp only [rgG]
                refine runC ?_
                refine r_ifd (fun hlt => ?_) (fun hlt => ?_)
                · rw [if_pos (show (((x :: xs).length : Nat) : Int) < 20 by simp only [List.length_cons] at hlt ⊢; omega)] at h3
                  simp only [List.length_cons] at hm h2
                  refine runC ?_
                  refine r_call1p 0 hfx.2 ?_
                  refine runC ?_
                  exact ⟨(c2, x :: (xs ++ [r])), [0, 1, 2, 5], [], Gc.of, by simp only [List.length_cons, List.length_append, List.length_nil]; omega, hfx.1, by simp only [List.length_cons, List.length_append, List.length_nil]; omega, by simp only [List.length_cons, List.length_append, List.length_nil]; rw [show 21 - (xs.length + (0 + 1) + 1) = m by omega]; exact h3⟩
                · rw [if_neg (show ¬ (((x :: xs).length : Nat) : Int) < 20 by simp only [List.length_cons] at hlt ⊢; omega)] at h3
                  cases h3
                  dsimp only [rgT, rgS]
                  refine run ?_
                  exact r_end [0, 3] []
          · refine runC ?_
            refine runC ?_
            refine r_call1p 0 q4.2 ?_
            cases B4 with
            | false =>
              simp only [Bool.false_eq_true, if_false]
              dsimp only [rgT, rgS]
              refine run ?_
              exact r_end [0, 3] []
            | true =>
              simp only [if_true]
              refine runC ?_
              refine r_loop_of (σ := (Int × Int) × List RuleV) (fun s => [(0, .ptr 0 [] 0), (2, .ptr 1 [] 0), (3, .ptr 2 [] 0)]) (fun s => rgG l s.1 s.2 [] []) (fun s => curP l s.1.1 ∧ s.2.length ≤ 20 ∧ fiF f (21 - s.2.length) s.1 s.2 = (C5, rules2)) (fun s => 20 - s.2.length) (C4, (x :: xs)) [0, 1, 2, 3] [] ⟨q4.1, by first | exact Nat.zero_le _ | (simp only [List.length_cons] at q1 ⊢; omega), fi_any hR5 (by first | exact Nat.zero_le _ | (simp only [List.length_cons] at q1 ⊢; omega))⟩ Gc.of ?_
              rintro ⟨c, o⟩ ⟨h1, h2, h3⟩
              dsimp only at h1 h2 h3 ⊢
              have hfx := hf c h1
              obtain ⟨m, hm⟩ : ∃ m, 21 - o.length = m + 1 := ⟨20 - o.length, by omega⟩
              rw [hm, fiF] at h3
              generalize f c = z at *
              obtain ⟨r, c2⟩ := z
              dsimp only at hfx h3
              dsimp only [ruleC] at hfx
              cases o with
              | nil =>
                rw [if_pos (by simp)] at h3
                dsimp only [rgG]
                refine runC ?_
                refine r_call1p 0 hfx.2 ?_
                refine runC ?_
                refine r_apz ?_
                refine runC ?_
                exact ⟨(c2, [r]), [0, 1, 2, 4], [], Gc.of, by simp, hfx.1, by simp, by simpa [show m = 20 by simpa using hm.symm] using h3⟩
              | cons x xs =>
                dsimp only [rgG]
                refine runC ?_
                refine r_ifd (fun hlt => ?_) (fun hlt => ?_)
                · rw [if_pos (show (((x :: xs).length : Nat) : Int) < 20 by simp only [List.length_cons] at hlt ⊢; omega)] at h3
                  simp only [List.length_cons] at hm h2
                  refine runC ?_
                  refine r_call1p 0 hfx.2 ?_
                  refine runC ?_
                  exact ⟨(c2, x :: (xs ++ [r])), [0, 1, 2, 5], [], Gc.of, by simp only [List.length_cons, List.length_append, List.length_nil]; omega, hfx.1, by simp only [List.length_cons, List.length_append, List.length_nil]; omega, by simp only [List.length_cons, List.length_append, List.length_nil]; rw [show 21 - (xs.length + (0 + 1) + 1) = m by omega]; exact h3⟩
                · rw [if_neg (show ¬ (((x :: xs).length : Nat) : Int) < 20 by simp only [List.length_cons] at hlt ⊢; omega)] at h3
                  cases h3
                  dsimp only [rgT, rgS]
                  refine run ?_
                  exact r_end [0, 3] []
      | cons y ys =>
        dsimp only [rgG]
        refine runC ?_
        refine r_call1p 0 hb.2.2 ?_
        refine runC ?_
        refine r_ifd (fun hlt => ?_) (fun hlt => ?_)
        · rw [if_pos hlt] at h4
          refine runC ?_
          refine r_call1p 0 hb2.2.2 ?_
          refine runC ?_
          refine r_call1p 0 ho.2 ?_
          cases bb with
          | true =>
            simp only [if_true] at hzr
            cases hzr
            refine runC ?_
            refine r_app (enc := zoneC) (y :: ys) [⟨nm, 30 * n2 - 720, 0⟩] (by simp only [List.length_cons, List.length_nil] at h3 ⊢; omega) ?_
            refine runC ?_
            refine r_call1p 0 hb4.2.2 ?_
            refine runC ?_
            exact ⟨(i + 1, nm + 1 + n4, c4, y :: (ys ++ [(⟨nm, 30 * n2 - 720, 0⟩ : ZoneV)])), [0, 1, 2, 3, 7], [], Gc.of, by dsimp only; omega, by dsimp only; omega, hb4.2.1, by simp only [List.length_cons, List.length_append, List.length_nil] at h3 ⊢; omega, by dsimp only; rw [show 4 - (i + 1) = m by omega]; exact h4, by dsimp only; omega⟩
          | false =>
            simp only [Bool.false_eq_true, if_false] at hzr
            cases hzr
            refine runC ?_
            refine r_call1p 0 hb3.2.2 ?_
            refine runC ?_
            refine r_app (enc := zoneC) (y :: ys) [⟨nm, 30 * n2 - 720, (nth (x :: xs) x3).name⟩] (by simp only [List.length_cons, List.length_nil] at h3 ⊢; omega) ?_
            refine runC ?_
            refine r_call1p 0 hb4.2.2 ?_
            refine runC ?_
            exact ⟨(i + 1, nm + 1 + n4, c4, y :: (ys ++ [(⟨nm, 30 * n2 - 720, (nth (x :: xs) x3).name⟩ : ZoneV)])), [0, 1, 2, 3, 7], [], Gc.of, by dsimp only; omega, by dsimp only; omega, hb4.2.1, by simp only [List.length_cons, List.length_append, List.length_nil] at h3 ⊢; omega, by dsimp only; rw [show 4 - (i + 1) = m by omega]; exact h4, by dsimp only; omega⟩
        · rw [if_neg hlt] at h4
          cases h4
          refine run ?_
          refine r_loop_of (σ := Nat × (Int × Int) × List LinkV) (fun s => [(0, .ptr 0 [] 0), (2, .ptr 1 [] 0), (3, .ptr 2 [] 0), (8, .v (.int .i64 ((s.1 : Nat))))]) (fun s => rgG l s.2.1 (x :: xs) (y :: ys) s.2.2) (fun s => s.1 ≤ 2 ∧ curP l s.2.1.1 ∧ s.2.2.length = s.1 ∧ liF l (y :: ys) (3 - s.1) (s.1 : Nat) s.2.1 s.2.2 = (C3, links)) (fun s => 3 - s.1) (0, C2, []) [0, 1, 2, 3, 4] [] ⟨by dsimp only; omega, q2.1, rfl, hR3⟩ Gc.of ?_
          clear hR3
          rintro ⟨i, c, o⟩ ⟨h1, h2, h3, h4⟩
          dsimp only at h1 h2 h3 h4 ⊢
          have hb := bD_ok l 3 c h2 (by omega)
          obtain ⟨m, hm⟩ : ∃ m, 3 - i = m + 1 := ⟨2 - i, by omega⟩
          rw [hm, liF] at h4
          have hzl : (y :: ys).length ≤ 3 := q2.2
          simp only [List.length_cons] at hzl
          have hb2 := bD_ok l ((y :: ys).length : Nat) _ hb.2.1 (by simp only [List.length_cons]; omega)
          generalize bD l ((y :: ys).length : Nat) (bD l 3 c).2 = u at *
          obtain ⟨x2, c2⟩ := u
          generalize bD l 3 c = w at *
          obtain ⟨v, c1⟩ := w
          dsimp only at hb hb2 h4
          have hx2 := hb2.1
          simp only [List.length_cons] at hx2
          cases o with
          | nil =>
            dsimp only [rgG]
            refine runC ?_
            refine r_call1p 0 hb.2.2 ?_
            by_cases hlt : (i : Int) < v
            · rw [if_pos ⟨hlt, by simp only [List.length_cons]; omega⟩] at h4
              refine runC ?_
              refine r_call1p 0 hb2.2.2 ?_
              refine runC ?_
              refine r_apz ?_
              refine runC ?_
              exact ⟨(i + 1, c2, [⟨84 + (i : Int), (nth (y :: ys) x2).name⟩]), [0, 1, 2, 3, 4, 6], [], Gc.of, by dsimp only; omega, by dsimp only; omega, hb2.2.1, by simp only [List.length_cons, List.length_append, List.length_nil] at h3 ⊢; omega, by dsimp only; rw [show 3 - (i + 1) = m by omega]; exact h4⟩
            · rw [if_neg (fun hh => hlt hh.1)] at h4
              cases h4
              refine runC ?_
              refine runC ?_
              refine r_call1p 0 q4.2 ?_
              cases B4 with
              | false =>
                simp only [Bool.false_eq_true, if_false]
                dsimp only [rgT, rgS]
                refine run ?_
                exact r_end [0, 3, 4] []
              | true =>
                simp only [if_true]
                refine runC ?_
                refine r_loop_of (σ := (Int × Int) × List RuleV) (fun s => [(0, .ptr 0 [] 0), (2, .ptr 1 [] 0), (3, .ptr 2 [] 0)]) (fun s => rgG l s.1 s.2 (y :: ys) []) (fun s => curP l s.1.1 ∧ s.2.length ≤ 20 ∧ fiF f (21 - s.2.length) s.1 s.2 = (C5, rules2)) (fun s => 20 - s.2.length) (C4, (x :: xs)) [0, 1, 2, 3, 4] [] ⟨q4.1, by first | exact Nat.zero_le _ | (simp only [List.length_cons] at q1 ⊢; omega), fi_any hR5 (by first | exact Nat.zero_le _ | (simp only [List.length_cons] at q1 ⊢; omega))⟩ Gc.of ?_
                rintro ⟨c, o⟩ ⟨h1, h2, h3⟩
                dsimp only at h1 h2 h3 ⊢
                have hfx := hf c h1
                obtain ⟨m, hm⟩ : ∃ m, 21 - o.length = m + 1 := ⟨20 - o.length, by omega⟩
                rw [hm, fiF] at h3
                generalize f c = z at *
                obtain ⟨r, c2⟩ := z
                dsimp only at hfx h3
                dsimp only [ruleC] at hfx
                cases o with
                | nil =>
                  rw [if_pos (by simp)] at h3
                  dsimp only [rgG]
                  refine runC ?_
                  refine r_call1p 0 hfx.2 ?_
                  refine runC ?_
                  refine r_apz ?_
                  refine runC ?_
                  exact ⟨(c2, [r]), [0, 1, 2, 5, 3], [], Gc.of, by simp, hfx.1, by simp, by simpa [show m = 20 by simpa using hm.symm] using h3⟩
                | cons x xs =>
                  dsimp only [rgG]
                  refine runC ?_
                  refine r_ifd (fun hlt => ?_) (fun hlt => ?_)
                  · rw [if_pos (show (((x :: xs).length : Nat) : Int) < 20 by simp only [List.length_cons] at hlt ⊢; omega)] at h3
                    simp only [List.length_cons] at hm h2
                    refine runC ?_
                    refine r_call1p 0 hfx.2 ?_
                    refine runC ?_
                    exact ⟨(c2, x :: (xs ++ [r])), [0, 1, 2, 6, 4], [], Gc.of, by simp only [List.length_cons, List.length_append, List.length_nil]; omega, hfx.1, by simp only [List.length_cons, List.length_append, List.length_nil]; omega, by simp only [List.length_cons, List.length_append, List.length_nil]; rw [show 21 - (xs.length + (0 + 1) + 1) = m by omega]; exact h3⟩
                  · rw [if_neg (show ¬ (((x :: xs).length : Nat) : Int) < 20 by simp only [List.length_cons] at hlt ⊢; omega)] at h3
                    cases h3
                    dsimp only [rgT, rgS]
                    refine run ?_
                    exact r_end [0, 3, 4] []
          | cons q qs =>
            dsimp only [rgG]
            refine runC ?_
            refine r_call1p 0 hb.2.2 ?_
            by_cases hlt : (i : Int) < v
            · rw [if_pos ⟨hlt, by simp only [List.length_cons]; omega⟩] at h4
              refine runC ?_
              refine r_call1p 0 hb2.2.2 ?_
              refine runC ?_
              refine r_app (enc := linkC) (q :: qs) [⟨84 + (i : Int), (nth (y :: ys) x2).name⟩] (by simp only [List.length_cons, List.length_nil] at h3 ⊢; omega) ?_
              refine runC ?_
              exact ⟨(i + 1, c2, q :: (qs ++ [(⟨84 + (i : Int), (nth (y :: ys) x2).name⟩ : LinkV)])), [0, 1, 2, 3, 4, 7], [], Gc.of, by dsimp only; omega, by dsimp only; omega, hb2.2.1, by simp only [List.length_cons, List.length_append, List.length_nil] at h3 ⊢; omega, by dsimp only; rw [show 3 - (i + 1) = m by omega]; exact h4⟩
            · rw [if_neg (fun hh => hlt hh.1)] at h4
              cases h4
              refine runC ?_
              refine runC ?_
              refine r_call1p 0 q4.2 ?_
              cases B4 with
              | false =>
                simp only [Bool.false_eq_true, if_false]
                dsimp only [rgT, rgS]
                refine run ?_
                exact r_end [0, 3, 4, 5] []
              | true =>
                simp only [if_true]
                refine runC ?_
                refine r_loop_of (σ := (Int × Int) × List RuleV) (fun s => [(0, .ptr 0 [] 0), (2, .ptr 1 [] 0), (3, .ptr 2 [] 0)]) (fun s => rgG l s.1 s.2 (y :: ys) (q :: qs)) (fun s => curP l s.1.1 ∧ s.2.length ≤ 20 ∧ fiF f (21 - s.2.length) s.1 s.2 = (C5, rules2)) (fun s => 20 - s.2.length) (C4, (x :: xs)) [0, 1, 2, 3, 4, 5] [] ⟨q4.1, by first | exact Nat.zero_le _ | (simp only [List.length_cons] at q1 ⊢; omega), fi_any hR5 (by first | exact Nat.zero_le _ | (simp only [List.length_cons] at q1 ⊢; omega))⟩ Gc.of ?_
                rintro ⟨c, o⟩ ⟨h1, h2, h3⟩
                dsimp only at h1 h2 h3 ⊢
                have hfx := hf c h1
                obtain ⟨m, hm⟩ : ∃ m, 21 - o.length = m + 1 := ⟨20 - o.length, by omega⟩
                rw [hm, fiF] at h3
                generalize f c = z at *
                obtain ⟨r, c2⟩ := z
                dsimp only at hfx h3
                dsimp only [ruleC] at hfx
                cases o with
                | nil =>
                  rw [if_pos (by simp)] at h3
                  dsimp only [rgG]
                  refine runC ?_
                  refine r_call1p 0 hfx.2 ?_
                  refine runC ?_
                  refine r_apz ?_
                  refine runC ?_
                  exact ⟨(c2, [r]), [0, 1, 2, 6, 3, 4], [], Gc.of, by simp, hfx.1, by simp, by simpa [show m = 20 by simpa using hm.symm] using h3⟩
                | cons x xs =>
                  dsimp only [rgG]
                  refine runC ?_
                  refine r_ifd (fun hlt => ?_) (fun hlt => ?_)
                  · rw [if_pos (show (((x :: xs).length : Nat) : Int) < 20 by simp only [List.length_cons] at hlt ⊢; omega)] at h3
                    simp only [List.length_cons] at hm h2
                    refine runC ?_
                    refine r_call1p 0 hfx.2 ?_
                    refine runC ?_
                    exact ⟨(c2, x :: (xs ++ [r])), [0, 1, 2, 7, 4, 5], [], Gc.of, by simp only [List.length_cons, List.length_append, List.length_nil]; omega, hfx.1, by simp only [List.length_cons, List.length_append, List.length_nil]; omega, by simp only [List.length_cons, List.length_append, List.length_nil]; rw [show 21 - (xs.length + (0 + 1) + 1) = m by omega]; exact h3⟩
                  · rw [if_neg (show ¬ (((x :: xs).length : Nat) : Int) < 20 by simp only [List.length_cons] at hlt ⊢; omega)] at h3
                    cases h3
                    dsimp only [rgT, rgS]
                    refine run ?_
                    exact r_end [0, 3, 4, 5] []

end Go.TL
