/- The walk in one word, conditions, loops, ends. No conditions. -/
import Derived.Test.YtpkofjoifihhgaaTStep2
namespace Go.TL
open Go.RowKit

section
variable {P : Program} {M n : Nat} {fr : Nat → T} {S : Store} {Q : Ex → (Nat → T) → Store → Prop}

/-- The straight line. -/
theorem go {p q : Prop} (h : q) (w : q → p := by
    intro h
    repeat (first
      | refine r_seq ?_ | refine r_region ?_ | refine r_do ?_ | refine r_ops ?_ | refine x_seq_n ?_ | refine r_block ?_ | refine r_skip ?_ | refine r_exit ?_ | refine r_ret ?_
      | refine x_seq_r ?_ | refine x_seq_e ?_ | refine x_block_n ?_ | refine x_block_r ?_ | refine x_block_e ?_ | refine x_block_o rfl ?_)
    exact h) : p := w h

theorem r_if {c : Operand} {a b : Code} {t : Bool} (h1 : t = true → wpT P M n a Q fr S) (h2 : t = false → wpT P M n b Q fr S)
    (hc : TL.ev fr c = .v (.bool t) := by (first | (simp only [go_sem, Nat.reduceEqDiff, Nat.reduceAdd, Nat.reduceMul, Nat.reduceBEq, Int.reduceLT, Int.reduceLE, Int.reduceNe, beq_self_eq_true, Bool.false_eq_true, reduceCtorEq, if_false] <;> rfl) | rfl)) : wpT P M n (.cond c a b) Q fr S := r_cond t hc h1 h2
theorem r_ifd {c : Operand} {a b : Code} {p : Prop} [Decidable p] (h1 : p → wpT P M n a Q fr S) (h2 : ¬ p → wpT P M n b Q fr S)
    (hc : TL.ev fr c = .v (.bool (decide p)) := by (first | (simp only [go_sem, Nat.reduceEqDiff, Nat.reduceAdd, Nat.reduceMul, Nat.reduceBEq, Int.reduceLT, Int.reduceLE, Int.reduceNe, beq_self_eq_true, Bool.false_eq_true, reduceCtorEq, if_false] <;> rfl) | rfl)) : wpT P M n (.cond c a b) Q fr S :=
  r_cond _ hc (fun h => h1 (of_decide_eq_true h)) (fun h => h2 (of_decide_eq_false h))
theorem r_ifn {c : Operand} {a b : Code} {p : Prop} [Decidable p] (h1 : ¬ p → wpT P M n a Q fr S) (h2 : p → wpT P M n b Q fr S)
    (hc : TL.ev fr c = .v (.bool (!decide p)) := by (first | (simp only [go_sem, Nat.reduceEqDiff, Nat.reduceAdd, Nat.reduceMul, Nat.reduceBEq, Int.reduceLT, Int.reduceLE, Int.reduceNe, beq_self_eq_true, Bool.false_eq_true, reduceCtorEq, if_false] <;> rfl) | rfl)) : wpT P M n (.cond c a b) Q fr S :=
  r_cond _ hc (fun h => h1 (by simpa using h)) (fun h => h2 (by simpa using h))

/-- A frame, told by a list; all else is dead. -/
def frm : List (Nat × T) → Nat → T
  | [], _ => .dead
  | (i, t) :: l, j => if j = i then t else frm l j
@[go_sem] theorem frm_nil (j : Nat) : frm [] j = .dead := of_eq_true (eq_self _)
@[go_sem] theorem frm_cons (i : Nat) (t : T) (l : List (Nat × T)) (j : Nat) : frm ((i, t) :: l) j = if j = i then t else frm l j := of_eq_true (eq_self _)

def frmOk (keep : List Nat) (fr : Nat → T) : List (Nat × T) → Prop
  | [] => True
  | (i, t) :: l => gcT keep (fr i) = t ∧ frmOk keep fr l

theorem frm_frame {keep : List Nat} {fr : Nat → T} : ∀ {l : List (Nat × T)}, frmOk keep fr l → ∀ j, frm l j = .dead ∨ frm l j = gcT keep (fr j)
  | [], _, j => .inl rfl
  | (i, t) :: l, h, j => by
    by_cases e : j = i
    · subst e; simp only [frm, if_true]; exact .inr h.1.symm
    · simp only [frm, if_neg e]; exact frm_frame h.2 j

theorem Gc.of {l : List (Nat × T)} {S2 : Store} {keep : List Nat} (hf : frmOk keep fr l := by (first | (simp only [go_sem, Nat.reduceEqDiff, Nat.reduceAdd, Nat.reduceMul, Nat.reduceBEq, Int.reduceLT, Int.reduceLE, Int.reduceNe, beq_self_eq_true, Bool.false_eq_true, reduceCtorEq, if_false] <;> rfl) | rfl)) (hs : gcS keep S = S2 := by (first | (simp only [go_sem, Nat.reduceEqDiff, Nat.reduceAdd, Nat.reduceMul, Nat.reduceBEq, Int.reduceLT, Int.reduceLE, Int.reduceNe, beq_self_eq_true, Bool.false_eq_true, reduceCtorEq, if_false] <;> rfl) | rfl)) (hn : keep.Nodup := by decide) (hl : (keep.all fun r => Nat.blt r S.length) = true := by rfl)
    (hm : ∀ i, i < M → keep[i]? = some i := by intro i hi; first | (exact absurd hi (Nat.not_lt_zero _)) | (revert i; decide)) : Gc M S fr S2 (frm l) keep :=
  ⟨hn, fun r hr => by have := List.all_eq_true.1 hl r hr; simpa [Nat.blt_eq] using this, hm, hs.symm, frm_frame hf⟩

/-- A loop with states: what the frame is, what the roots are, what holds, what falls. -/
theorem r_loop_of {c : Code} {σ : Type} (F : σ → List (Nat × T)) (G : σ → Store) (inv : σ → Prop) (μ : σ → Nat) (x0 : σ) (keep : List Nat) (h0 : inv x0) (hg : Gc M S fr (G x0) (frm (F x0)) keep)
    (hr : ∀ x, inv x → wpT P M n c (Ex.seq (fun fr' S' => ∃ x' keep, Gc M S' fr' (G x') (frm (F x')) keep ∧ μ x' < μ x ∧ inv x') Q) (frm (F x)) (G x)) : wpT P M n (.loop c) Q fr S := by
  refine ⟨fun k fr S => ∃ x, fr = frm (F x) ∧ S = G x ∧ inv x ∧ μ x = k, μ x0, frm (F x0), G x0, keep, hg, ⟨x0, rfl, rfl, h0, rfl⟩, ?_⟩
  rintro k fr S ⟨x, rfl, rfl, hx, rfl⟩
  refine W.mono (W.of (hr x hx)) fun e fr' S' hq => ?_
  cases e with
  | normal =>
    obtain ⟨x', keep, h1, h2, h3⟩ := hq
    exact ⟨μ x', _, _, keep, h1, h2, x', rfl, rfl, h3, rfl⟩
  | exit i => exact hq
  | ret => exact hq

theorem r_end {fn : Func} {res : T} {S1 : Store} (keep : List Nat) {ts : List T} (hs : gcS keep S = S1 := by (first | (simp only [go_sem, Nat.reduceEqDiff, Nat.reduceAdd, Nat.reduceMul, Nat.reduceBEq, Int.reduceLT, Int.reduceLE, Int.reduceNe, beq_self_eq_true, Bool.false_eq_true, reduceCtorEq, if_false] <;> rfl) | rfl)) (hr : resTs P S fr fn.results.toList = some ts := by (first | (simp only [go_sem, Nat.reduceEqDiff, Nat.reduceAdd, Nat.reduceMul, Nat.reduceBEq, Int.reduceLT, Int.reduceLE, Int.reduceNe, beq_self_eq_true, Bool.false_eq_true, reduceCtorEq, if_false] <;> rfl) | rfl)) (hres : gcT keep (packT ts) = res := by (first | (simp only [go_sem, Nat.reduceEqDiff, Nat.reduceAdd, Nat.reduceMul, Nat.reduceBEq, Int.reduceLT, Int.reduceLE, Int.reduceNe, beq_self_eq_true, Bool.false_eq_true, reduceCtorEq, if_false] <;> rfl) | rfl)) (hn : keep.Nodup := by decide) (hl : (keep.all fun r => Nat.blt r S.length) = true := by rfl)
    (hm : ∀ i, i < M → keep[i]? = some i := by intro i hi; first | (exact absurd hi (Nat.not_lt_zero _)) | (revert i; decide)) : EndT P M fn res S1 .ret fr S :=
  ⟨ts, keep, hr, ⟨hn, fun r hr => by have := List.all_eq_true.1 hl r hr; simpa [Nat.blt_eq] using this, hm, hs.symm, fun _ => .inl rfl⟩, hres.symm⟩
end

/-- Rows of things. -/
def rowT {α : Type} (enc : α → List T) (l : List α) : List T := l.flatMap enc
theorem rowT_len {α : Type} {enc : α → List T} {sz : Nat} (h : ∀ x, (enc x).length = sz) : ∀ (l : List α), (rowT enc l).length = l.length * sz
  | [] => by simp [rowT]
  | x :: l => by
    have := rowT_len h l
    simp only [rowT, List.flatMap_cons, List.length_append, h, List.length_cons, Nat.succ_mul] at this ⊢
    omega
theorem rowT_append {α : Type} (enc : α → List T) (a b : List α) : rowT enc (a ++ b) = rowT enc a ++ rowT enc b := by simp [rowT]
theorem rowT_nil {α : Type} (enc : α → List T) : rowT enc [] = [] := rfl
theorem rowT_cons {α : Type} (enc : α → List T) (x : α) (l : List α) : rowT enc (x :: l) = enc x ++ rowT enc l := rfl

/-- Cells that hold plain values or frozen trees of one tag. -/
def plainC : T → Bool
  | .v x => x.oneCell'
  | .sl false _ _ _ _ => true
  | _ => false
structure Enc {α : Type} (enc : α → List T) (sz : Nat) : Prop where
  len : ∀ x, (enc x).length = sz
  plain : ∀ x, (enc x).all plainC = true

theorem plain_gc {keep : List Nat} : ∀ {l : List T}, l.all plainC = true → gcTs keep l = l
  | [], _ => rfl
  | c :: l, h => by
    simp only [List.all_cons, Bool.and_eq_true] at h
    rw [gcTs, plain_gc h.2]
    cases c with
    | sl own => cases own with
      | false => rfl
      | true => simp [plainC] at h
    | v => rfl
    | _ => simp [plainC] at h
theorem plain_ren {g : Nat → Nat} : ∀ {l : List T}, l.all plainC = true → rens g l = l
  | [], _ => rfl
  | c :: l, h => by
    simp only [List.all_cons, Bool.and_eq_true] at h
    rw [rens, plain_ren h.2]
    cases c with
    | sl own => cases own with
      | false => rfl
      | true => simp [plainC] at h
    | v => rfl
    | _ => simp [plainC] at h
theorem plain_fz : ∀ {l : List T}, l.all plainC = true → allTs leafFz l = true
  | [], _ => rfl
  | c :: l, h => by
    simp only [List.all_cons, Bool.and_eq_true] at h
    rw [allTs, plain_fz h.2]
    cases c with
    | sl own => cases own with
      | false => rfl
      | true => simp [plainC] at h
    | v => rfl
    | _ => simp [plainC] at h
theorem plain_noref : ∀ {l : List T}, l.all plainC = true → allTs leafNoRef l = true
  | [], _ => rfl
  | c :: l, h => by
    simp only [List.all_cons, Bool.and_eq_true] at h
    rw [allTs, plain_noref h.2]
    cases c with
    | sl own => cases own with
      | false => rfl
      | true => simp [plainC] at h
    | v => rfl
    | _ => simp [plainC] at h
theorem plain_cell : ∀ {l : List T}, l.all plainC = true → l.all cellOk = true
  | [], _ => rfl
  | c :: l, h => by
    simp only [List.all_cons, Bool.and_eq_true] at h
    rw [List.all_cons, plain_cell h.2]
    cases c with
    | sl own => cases own with
      | false => rfl
      | true => simp [plainC] at h
    | v => simpa [plainC, cellOk] using h.1
    | _ => simp [plainC] at h
theorem rowT_plain {α : Type} {enc : α → List T} {sz : Nat} (h : Enc enc sz) (l : List α) : (rowT enc l).all plainC = true := by
  simp only [rowT, List.all_flatMap, List.all_eq_true]
  intro x _
  exact List.all_eq_true.1 (h.plain x)

def u8C (x : Int) : List T := [.v (.int .u8 x)]
def i64C (x : Int) : List T := [.v (.int .i64 x)]
def strC (x : ByteArray) : List T := [.v (.string x)]
theorem u8E : Enc u8C 1 := ⟨fun _ => rfl, fun _ => rfl⟩
theorem i64E : Enc i64C 1 := ⟨fun _ => rfl, fun _ => rfl⟩
theorem strE : Enc strC 1 := ⟨fun _ => rfl, fun _ => rfl⟩
@[go_sem] theorem gc_u8 (keep : List Nat) (l : List Int) : gcTs keep (rowT u8C l) = rowT u8C l := plain_gc (rowT_plain u8E l)
@[go_sem] theorem gc_i64 (keep : List Nat) (l : List Int) : gcTs keep (rowT i64C l) = rowT i64C l := plain_gc (rowT_plain i64E l)
@[go_sem] theorem gc_str (keep : List Nat) (l : List ByteArray) : gcTs keep (rowT strC l) = rowT strC l := plain_gc (rowT_plain strE l)
@[go_sem] theorem rowT_1 {α : Type} (enc : α → List T) (x : α) : rowT enc [x] = enc x := by simp [rowT]

attribute [go_sem] frmOk List.idxOf?_cons List.idxOf?_nil and_true true_and and_self
attribute [go_sem] gcS Root.gc gcTs gcT
@[go_sem] theorem at_0 (any : Bool) (x : Root) (S : Store) (p : List Nat) : Store.at any (x :: S) 0 p = if x.live then cellsAt any x.e x.cs p else none := of_eq_true (eq_self _)
@[go_sem] theorem at_s (any : Bool) (x : Root) (S : Store) (r : Nat) (p : List Nat) : Store.at any (x :: S) (r + 1) p = Store.at any S r p := of_eq_true (eq_self _)
@[go_sem] theorem at_1 (any : Bool) (x : Root) (S : Store) (p : List Nat) : Store.at any (x :: S) 1 p = Store.at any S 0 p := of_eq_true (eq_self _)
@[go_sem] theorem at_2 (any : Bool) (x y : Root) (S : Store) (p : List Nat) : Store.at any (x :: y :: S) 2 p = Store.at any S 0 p := of_eq_true (eq_self _)
@[go_sem] theorem at_3 (any : Bool) (x y z : Root) (S : Store) (p : List Nat) : Store.at any (x :: y :: z :: S) 3 p = Store.at any S 0 p := of_eq_true (eq_self _)
@[go_sem] theorem at_4 (any : Bool) (x y z u : Root) (S : Store) (p : List Nat) : Store.at any (x :: y :: z :: u :: S) 4 p = Store.at any S 0 p := of_eq_true (eq_self _)
@[go_sem] theorem cellsAt_nil (any : Bool) (e : Nat) (cs : List T) : cellsAt any e cs [] = some (e, cs) := of_eq_true (eq_self _)

/-- An append to a row of one's own. -/
theorem app_own {P : Program} {S : Store} {t ty2 e : TypeId} {sz bs : Nat} {zs : List T} {α : Type} {enc : α → List T} (he : ∀ x, (enc x).length = sz) (h0 : 0 < sz) {y : T} {r : Nat} {l1 l2 : List α} (h1 : elemT P t = some e) (h2 : szT P e = some sz) (h3 : bytesT P e = some bs) (h4 : zeroT P e = some zs) (h6 : zs.length = sz) (h5 : notInt P ty2 = true)
    (hy : srcT S sz y = some (l2.length, rowT enc l2)) (hat : S.at false r [] = some (sz, rowT enc l1)) (hb : (l1.length + l2.length) * bs ≤ 140737488355328) (hb2 : l1.length + l2.length < 2 ^ 63) :
    appendT P S t ty2 (.ref r [] 0 l1.length) y = some (.ref S.length [] 0 (l1 ++ l2).length, S.kill r ++ [⟨sz, true, rowT enc (l1 ++ l2)⟩]) := by
  have e1 : l1.length * sz ≤ (rowT enc l1).length := by rw [rowT_len he]; exact Nat.le_refl _
  have e2 : List.take (l1.length * sz) (rowT enc l1) = rowT enc l1 := List.take_of_length_le (by rw [rowT_len he]; exact Nat.le_refl _)
  simp only [appendT, h1, h2, h3, h4, h5, hy, hat]
  rw [if_pos ⟨trivial, h0, h6⟩]
  simp only [if_pos (⟨trivial, e1, hb, hb2⟩ : True ∧ l1.length * sz ≤ (rowT enc l1).length ∧ (l1.length + l2.length) * bs ≤ 140737488355328 ∧ l1.length + l2.length < 2 ^ 63)]
  simp [rowT_append, e2]

attribute [go_sem] List.set_cons_zero List.set_cons_succ
@[go_sem] theorem kill_0 (x : Root) (S : Store) : Store.kill (x :: S) 0 = { x with live := false } :: S := of_eq_true (eq_self _)
@[go_sem] theorem kill_s (x : Root) (S : Store) (r : Nat) : Store.kill (x :: S) (r + 1) = x :: Store.kill S r := by
  unfold Store.kill
  simp only [List.getElem?_cons_succ]
  cases S[r]? <;> rfl
def strL (s : ByteArray) : List Int := s.data.toList.map fun b => (b.toNat : Int)
theorem strL_length (s : ByteArray) : (strL s).length = s.size := by
  rw [strL, List.length_map, Array.length_toList]; rfl
theorem rowT_map (c : Int → T) (l : List Int) : rowT (fun x => [c x]) l = l.map c := by
  induction l with
  | nil => rfl
  | cons x l ih => rw [rowT_cons, ih]; rfl
theorem bytes_row (s : ByteArray) : (s.data.toList.map fun b => T.v (.int .u8 b.toNat)) = rowT u8C (strL s) := by
  rw [show u8C = fun x => [T.v (.int .u8 x)] from rfl, rowT_map (fun x => T.v (.int .u8 x)), strL, List.map_map]
  rfl
theorem src_str (S : Store) (s : ByteArray) : srcT S 1 (.v (.string s)) = some ((strL s).length, rowT u8C (strL s)) := by
  rw [strL_length, ← bytes_row]
  rfl
theorem src_row {S : Store} {r sz : Nat} {α : Type} {enc : α → List T} (he : Enc enc sz) {l : List α} (hat : S.at false r [] = some (sz, rowT enc l)) : srcT S sz (.ref r [] 0 l.length) = some (l.length, rowT enc l) := by
  have e1 : List.take (l.length * sz) (rowT enc l) = rowT enc l := List.take_of_length_le (by rw [rowT_len he.len]; exact Nat.le_refl _)
  simp only [srcT, hat, List.drop_zero, e1, plain_cell (rowT_plain he l)]
  rw [if_pos ⟨trivial, by rw [rowT_len he.len]; omega, trivial⟩]
/-- Fewer cells. -/
theorem src_id {S : Store} {sz : Nat} {t : T} {x : Option (Nat × List T)} (h : srcT S sz t = x) : srcT S sz t = x := h

/-- An append of a few things to a row of one's own. -/
theorem r_app {P : Program} {n : Nat} {S S2 : Store} {fr : Nat → T} {ops : Array Oper} {d : Nat} {ty : TypeId} {pos : String} {aft : Array Edge} {rest : List Oper} {K : (Nat → T) → Store → Prop} {t ty2 : TypeId} {x y : Operand} {α : Type}
    {enc : α → List T} {sz : Nat} (he : Enc enc sz) (l1 l2 : List α) (hb : l1.length + l2.length ≤ 100000000) {r k bs : Nat} {zs : List T} (h : wpOpsT P ops n rest K (upd fr d (.ref k [] 0 (l1 ++ l2).length)) S2)
    (hx : TL.ev fr x = .ref r [] 0 l1.length := by (first | (simp only [go_sem, Nat.reduceEqDiff, Nat.reduceAdd, Nat.reduceMul, Nat.reduceBEq, Int.reduceLT, Int.reduceLE, Int.reduceNe, beq_self_eq_true, Bool.false_eq_true, reduceCtorEq, if_false] <;> rfl) | rfl))
    (hy : srcT S sz (TL.ev fr y) = some (l2.length, rowT enc l2) := by (try simp only [go_sem, Nat.reduceEqDiff, reduceCtorEq, if_false]); first | exact src_str _ _ | exact src_row (by first | exact u8E | exact strE | exact i64E) (by rfl) | (simp only [srcT, go_sem, Nat.reduceMul, Nat.reduceAdd] <;> rfl) | rfl)
    (hat : S.at false r [] = some (sz, rowT enc l1) := by (first | (simp only [go_sem, Nat.reduceEqDiff, Nat.reduceAdd, Nat.reduceMul, Nat.reduceBEq, Int.reduceLT, Int.reduceLE, Int.reduceNe, beq_self_eq_true, Bool.false_eq_true, reduceCtorEq, if_false] <;> rfl) | rfl))
    {e : TypeId} (h1 : elemT P t = some e := by (first | (simp only [go_sem, Nat.reduceEqDiff, Nat.reduceAdd, Nat.reduceMul, Nat.reduceBEq, Int.reduceLT, Int.reduceLE, Int.reduceNe, beq_self_eq_true, Bool.false_eq_true, reduceCtorEq, if_false] <;> rfl) | rfl)) (h2 : szT P e = some sz := by (first | (simp only [go_sem, Nat.reduceEqDiff, Nat.reduceAdd, Nat.reduceMul, Nat.reduceBEq, Int.reduceLT, Int.reduceLE, Int.reduceNe, beq_self_eq_true, Bool.false_eq_true, reduceCtorEq, if_false] <;> rfl) | rfl)) (h3 : bytesT P e = some bs := by (first | (simp only [go_sem, Nat.reduceEqDiff, Nat.reduceAdd, Nat.reduceMul, Nat.reduceBEq, Int.reduceLT, Int.reduceLE, Int.reduceNe, beq_self_eq_true, Bool.false_eq_true, reduceCtorEq, if_false] <;> rfl) | rfl)) (h4 : zeroT P e = some zs := by (first | (simp only [go_sem, Nat.reduceEqDiff, Nat.reduceAdd, Nat.reduceMul, Nat.reduceBEq, Int.reduceLT, Int.reduceLE, Int.reduceNe, beq_self_eq_true, Bool.false_eq_true, reduceCtorEq, if_false] <;> rfl) | rfl)) (h5 : notInt P ty2 = true := by (first | (simp only [go_sem, Nat.reduceEqDiff, Nat.reduceAdd, Nat.reduceMul, Nat.reduceBEq, Int.reduceLT, Int.reduceLE, Int.reduceNe, beq_self_eq_true, Bool.false_eq_true, reduceCtorEq, if_false] <;> rfl) | rfl))
    (h6 : (Nat.ble bs 1000 && (zs.length == sz) && Nat.blt 0 sz) = true := by rfl) (hk : S.length = k := by (first | (simp only [go_sem, Nat.reduceAdd] <;> rfl) | rfl)) (hS : S.kill r ++ [⟨sz, true, rowT enc (l1 ++ l2)⟩] = S2 := by (first | (simp only [go_sem, Nat.reduceEqDiff, Nat.reduceAdd, Nat.reduceMul, Nat.reduceBEq, Int.reduceLT, Int.reduceLE, Int.reduceNe, beq_self_eq_true, Bool.false_eq_true, reduceCtorEq, if_false] <;> rfl) | rfl)) (hd : Nat.blt d n = true := by rfl) :
    wpOpsT P ops n (⟨some d, .call ⟨.builtin .append, #[x, y], #[t, ty2]⟩, ty, pos, aft, none⟩ :: rest) K fr S := by
  simp only [Bool.and_eq_true, beq_iff_eq, Nat.blt_eq] at h6
  have hbs := Nat.le_of_ble_eq_true h6.1.1
  refine r_op hd rfl ?_ h
  have hm : (l1.length + l2.length) * bs ≤ 100000000 * 1000 := Nat.mul_le_mul hb hbs
  have := app_own (S := S) (ty2 := ty2) he.len h6.2 h1 h2 h3 h4 h6.1.2 h5 hy hat (by omega) (by omega)
  show appendT P S t ty2 (TL.ev fr x) (TL.ev fr y) = _
  rw [hx, this, hk, hS]

end Go.TL
