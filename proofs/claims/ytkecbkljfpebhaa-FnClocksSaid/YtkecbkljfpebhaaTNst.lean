/- Rows that hold rows of one's own; rows that may be nil. No conditions. -/
import Derived.Test.YtkecbkljfpebhaaTGet
import Derived.Test.YtkecbkljfpebhaaTLm
import Derived.Test.YtkecbkljfpebhaaTB2
namespace Go.TL
set_option linter.unusedSimpArgs false
open Go.RowKit

/-- Leaves of one's own: plain values and frozen rows without a tag. -/
def leafOwn : T → Bool
  | .v _ => true
  | .sl false k _ _ _ => k == 0
  | _ => false
mutual
theorem own_gc {keep : List Nat} : ∀ t : T, allT leafOwn t = true → gcT keep t = t
  | .v _, _ => rfl
  | .sl false _ _ _ _, _ => by simp [gcT]
  | .sl true k n e cs, h => by rw [allT] at h; rw [gcT, own_gcs cs h]
  | .ref _ _ _ _, h => by simp [allT, leafOwn] at h
  | .ptr _ _ _, h => by simp [allT, leafOwn] at h
  | .pz _ _ _, h => by simp [allT, leafOwn] at h
  | .agg cs, h => by rw [allT] at h; rw [gcT, own_gcs cs h]
  | .tup cs, h => by rw [allT] at h; rw [gcT, own_gcs cs h]
  | .clo _ cs, h => by rw [allT] at h; rw [gcT, own_gcs cs h]
  | .dead, h => by simp [allT, leafOwn] at h
theorem own_gcs {keep : List Nat} : ∀ l : List T, allTs leafOwn l = true → gcTs keep l = l
  | [], _ => by simp [gcTs]
  | c :: l, h => by
    rw [allTs, Bool.and_eq_true] at h
    rw [gcTs, own_gc c h.1, own_gcs l h.2]
end
mutual
theorem own_ren {g : Nat → Nat} : ∀ t : T, allT leafOwn t = true → ren g t = t
  | .v _, _ => rfl
  | .sl false _ _ _ _, _ => by simp [ren]
  | .sl true k n e cs, h => by rw [allT] at h; rw [ren, own_rens cs h]
  | .ref _ _ _ _, h => by simp [allT, leafOwn] at h
  | .ptr _ _ _, h => by simp [allT, leafOwn] at h
  | .pz _ _ _, h => by simp [allT, leafOwn] at h
  | .agg cs, h => by rw [allT] at h; rw [ren, own_rens cs h]
  | .tup cs, h => by rw [allT] at h; rw [ren, own_rens cs h]
  | .clo _ cs, h => by rw [allT] at h; rw [ren, own_rens cs h]
  | .dead, h => by simp [allT, leafOwn] at h
theorem own_rens {g : Nat → Nat} : ∀ l : List T, allTs leafOwn l = true → rens g l = l
  | [], _ => by simp [rens]
  | c :: l, h => by
    rw [allTs, Bool.and_eq_true] at h
    rw [rens, own_ren c h.1, own_rens l h.2]
end
mutual
theorem own_re {f : NMap} : ∀ t : T, allT leafOwn t = true → reT f t = t
  | .v _, _ => rfl
  | .sl false _ _ _ _, _ => by simp [reT]
  | .sl true k n e cs, h => by rw [allT] at h; rw [reT, own_res cs h]
  | .ref _ _ _ _, h => by simp [allT, leafOwn] at h
  | .ptr _ _ _, h => by simp [allT, leafOwn] at h
  | .pz _ _ _, h => by simp [allT, leafOwn] at h
  | .agg cs, h => by rw [allT] at h; rw [reT, own_res cs h]
  | .tup cs, h => by rw [allT] at h; rw [reT, own_res cs h]
  | .clo _ cs, h => by rw [allT] at h; rw [reT, own_res cs h]
  | .dead, h => by simp [allT, leafOwn] at h
theorem own_res {f : NMap} : ∀ l : List T, allTs leafOwn l = true → reTs f l = l
  | [], _ => by simp [reTs]
  | c :: l, h => by
    rw [allTs, Bool.and_eq_true] at h
    rw [reTs, own_re c h.1, own_res l h.2]
end
mutual
theorem own_fz {x : Root} {r : Nat} : ∀ t : T, allT leafOwn t = true → fzT x r t = t
  | .v _, _ => rfl
  | .sl false _ _ _ _, _ => by simp [fzT]
  | .sl true k n e cs, h => by rw [allT] at h; rw [fzT, own_fzs cs h]
  | .ref _ _ _ _, h => by simp [allT, leafOwn] at h
  | .ptr _ _ _, h => by simp [allT, leafOwn] at h
  | .pz _ _ _, h => by simp [allT, leafOwn] at h
  | .agg cs, h => by rw [allT] at h; rw [fzT, own_fzs cs h]
  | .tup cs, h => by rw [allT] at h; rw [fzT, own_fzs cs h]
  | .clo _ cs, h => by rw [allT] at h; rw [fzT, own_fzs cs h]
  | .dead, h => by simp [allT, leafOwn] at h
theorem own_fzs {x : Root} {r : Nat} : ∀ l : List T, allTs leafOwn l = true → fzTs x r l = l
  | [], _ => by simp [fzTs]
  | c :: l, h => by
    rw [allTs, Bool.and_eq_true] at h
    rw [fzTs, own_fz c h.1, own_fzs l h.2]
end
mutual
theorem own_seal {x : Root} {r : Nat} : ∀ t : T, allT leafOwn t = true → sealT x r t = t
  | .v _, _ => rfl
  | .sl false _ _ _ _, _ => by simp [sealT]
  | .sl true k n e cs, h => by rw [allT] at h; rw [sealT, own_seals cs h]
  | .ref _ _ _ _, h => by simp [allT, leafOwn] at h
  | .ptr _ _ _, h => by simp [allT, leafOwn] at h
  | .pz _ _ _, h => by simp [allT, leafOwn] at h
  | .agg cs, h => by rw [allT] at h; rw [sealT, own_seals cs h]
  | .tup cs, h => by rw [allT] at h; rw [sealT, own_seals cs h]
  | .clo _ cs, h => by rw [allT] at h; rw [sealT, own_seals cs h]
  | .dead, h => by simp [allT, leafOwn] at h
theorem own_seals {x : Root} {r : Nat} : ∀ l : List T, allTs leafOwn l = true → sealTs x r l = l
  | [], _ => by simp [sealTs]
  | c :: l, h => by
    rw [allTs, Bool.and_eq_true] at h
    rw [sealTs, own_seal c h.1, own_seals l h.2]
end
mutual
theorem own_leaf {f : T → Bool} (hv : ∀ x, f (.v x) = true) (hs : ∀ n e cs, f (.sl false 0 n e cs) = true) : ∀ t : T, allT leafOwn t = true → allT f t = true
  | .v _, _ => by simp [allT, hv]
  | .sl false k _ _ _, h => by
    have : k = 0 := by simpa [allT, leafOwn] using h
    subst this
    simp [allT, hs]
  | .sl true k n e cs, h => by rw [allT] at h ⊢; exact own_leafs hv hs cs h
  | .ref _ _ _ _, h => by simp [allT, leafOwn] at h
  | .ptr _ _ _, h => by simp [allT, leafOwn] at h
  | .pz _ _ _, h => by simp [allT, leafOwn] at h
  | .agg cs, h => by rw [allT] at h ⊢; exact own_leafs hv hs cs h
  | .tup cs, h => by rw [allT] at h ⊢; exact own_leafs hv hs cs h
  | .clo _ cs, h => by rw [allT] at h ⊢; exact own_leafs hv hs cs h
  | .dead, h => by simp [allT, leafOwn] at h
theorem own_leafs {f : T → Bool} (hv : ∀ x, f (.v x) = true) (hs : ∀ n e cs, f (.sl false 0 n e cs) = true) : ∀ l : List T, allTs leafOwn l = true → allTs f l = true
  | [], _ => rfl
  | c :: l, h => by
    rw [allTs, Bool.and_eq_true] at h ⊢
    exact ⟨own_leaf hv hs c h.1, own_leafs hv hs l h.2⟩
end
theorem own_fzs' {l : List T} (h : allTs leafOwn l = true) : allTs leafFz l = true := own_leafs (fun _ => rfl) (fun _ _ _ => rfl) l h
theorem own_free {l : List T} (L : Nat) (h : allTs leafOwn l = true) : allTs (leafFree (L + 1)) l = true := own_leafs (fun _ => rfl) (fun _ _ _ => by simp [leafFree]) l h
theorem own_append : ∀ {a b : List T}, allTs leafOwn a = true → allTs leafOwn b = true → allTs leafOwn (a ++ b) = true
  | [], _, _, hb => hb
  | c :: a, b, ha, hb => by
    rw [allTs, Bool.and_eq_true] at ha
    rw [List.cons_append, allTs, Bool.and_eq_true]
    exact ⟨ha.1, own_append ha.2 hb⟩

theorem own_plainF : ∀ {l : List T}, (l.all fun c => match c with | .v _ => true | .sl false 0 _ _ _ => true | _ => false) = true → allTs leafOwn l = true
  | [], _ => rfl
  | c :: l, h => by
    simp only [List.all_cons, Bool.and_eq_true] at h
    rw [allTs, own_plainF h.2]
    cases c with
    | v => rfl
    | sl o k =>
      cases o with
      | true => simp at h
      | false =>
        cases k with
        | zero => simp [allT, leafOwn]
        | succ k => simp at h
    | _ => simp at h
theorem own_row {α : Type} {enc : α → List T} [RowF enc] (l : List α) : allTs leafOwn (rowT enc l) = true := own_plainF (rowF_all l)

/-! ### A row in a cell -/
section
variable (n e : Nat) (cs : List T)
@[go_sem] theorem ownB_t : ownB true n e cs = .sl true 0 n e cs := by unfold ownB; simp
theorem ownC_nil : ownC 0 e cs = .sl false 0 0 e [] := by unfold ownC ownB; rfl
theorem ownC_pos {n : Nat} (h : n ≠ 0) : ownC n e cs = .sl true 0 n e cs := by unfold ownC ownB; exact if_neg fun hh => h hh.1
@[go_sem high] theorem gc_ownC (keep : List Nat) : gcT keep (ownC n e cs) = ownC n e (gcTs keep cs) := by unfold ownC ownB; split <;> simp [gcT]
@[go_sem high] theorem ren_ownC (g : Nat → Nat) : ren g (ownC n e cs) = ownC n e (rens g cs) := by unfold ownC ownB; split <;> simp [ren]
@[go_sem high] theorem re_ownC (f : NMap) : reT f (ownC n e cs) = ownC n e (reTs f cs) := by unfold ownC ownB; split <;> simp [reT]
@[go_sem high] theorem fz_ownC (x : Root) (r : Nat) : fzT x r (ownC n e cs) = ownC n e (fzTs x r cs) := by unfold ownC ownB; split <;> simp [fzT]
@[go_sem high] theorem seal_ownC (x : Root) (r : Nat) : sealT x r (ownC n e cs) = ownC n e (sealTs x r cs) := by unfold ownC ownB; split <;> simp [sealT]
theorem zn_ownC' {m : Nat} (h : cs.length = m * e) : zn (ownC m e cs) = .sl false 0 m e (zns cs) := by
  unfold ownC ownB
  split
  · rename_i hm
    obtain ⟨hm, _⟩ := hm
    subst hm
    have : cs = [] := List.eq_nil_of_length_eq_zero (by simpa using h)
    subst this; rfl
  · simp [zn]
theorem allT_ownC {f : T → Bool} (h1 : f (.sl false 0 0 e []) = true) (h2 : allTs f cs = true) : allT f (ownC n e cs) = true := by
  unfold ownC ownB
  split
  · simp [allT, h1]
  · simp [allT, h2]
end
@[go_sem high] theorem zn_ownC {α : Type} {enc : α → List T} {sz : Nat} [h : RowE enc sz] (l : List α) : zn (ownC l.length sz (rowT enc l)) = .sl false 0 l.length sz (rowT enc l) := by
  rw [zn_ownC' _ _ (rowT_len h.e.len l), zn_row]
@[go_sem high] theorem free_ownC {α : Type} {enc : α → List T} [h : RowF enc] (sz L : Nat) (l : List α) : allT (leafFree (L + 1)) (ownC l.length sz (rowT enc l)) = true := allT_ownC _ _ _ (by simp [leafFree]) (own_free L (own_row l))
@[go_sem high] theorem leafFz_ownC {α : Type} {enc : α → List T} [h : RowF enc] (sz : Nat) (l : List α) : allT leafFz (ownC l.length sz (rowT enc l)) = true := allT_ownC _ _ _ rfl (own_fzs' (own_row l))
theorem own_ownC {α : Type} {enc : α → List T} [h : RowF enc] (sz : Nat) (l : List α) : allT leafOwn (ownC l.length sz (rowT enc l)) = true := allT_ownC _ _ _ rfl (own_row l)

/-- Rows whose cells hold rows of one's own, and how a callee sees them. -/
class RowO {α : Type} (encO : α → List T) (encC : outParam (α → List T)) (sz : outParam Nat) : Prop where
  len : ∀ x, (encO x).length = sz
  own : ∀ x, allTs leafOwn (encO x) = true
  zn : ∀ x, zns (encO x) = encC x
  pos : 0 < sz

section
variable {α : Type} {enc encC : α → List T} {sz : Nat}
theorem rowO_own [h : RowO enc encC sz] : ∀ l : List α, allTs leafOwn (rowT enc l) = true
  | [] => rfl
  | x :: l => by rw [rowT_cons]; exact own_append (h.own x) (rowO_own l)
theorem zns_append : ∀ a b : List T, zns (a ++ b) = zns a ++ zns b
  | [], _ => rfl
  | c :: a, b => by rw [List.cons_append, zns, zns_append a b, zns, List.cons_append]
@[go_sem] theorem gc_rowO [RowO enc encC sz] (keep : List Nat) (l : List α) : gcTs keep (rowT enc l) = rowT enc l := own_gcs _ (rowO_own l)
@[go_sem] theorem ren_rowO [RowO enc encC sz] (g : Nat → Nat) (l : List α) : rens g (rowT enc l) = rowT enc l := own_rens _ (rowO_own l)
@[go_sem] theorem re_rowO [RowO enc encC sz] (f : NMap) (l : List α) : reTs f (rowT enc l) = rowT enc l := own_res _ (rowO_own l)
@[go_sem] theorem fzs_rowO [RowO enc encC sz] (x : Root) (r : Nat) (l : List α) : fzTs x r (rowT enc l) = rowT enc l := own_fzs _ (rowO_own l)
@[go_sem] theorem seal_rowO [RowO enc encC sz] (x : Root) (r : Nat) (l : List α) : sealTs x r (rowT enc l) = rowT enc l := own_seals _ (rowO_own l)
@[go_sem] theorem fz_rowO [RowO enc encC sz] (l : List α) : allTs leafFz (rowT enc l) = true := own_fzs' (rowO_own l)
@[go_sem] theorem free_rowO [RowO enc encC sz] (L : Nat) (l : List α) : allTs (leafFree (L + 1)) (rowT enc l) = true := own_free L (rowO_own l)
@[go_sem] theorem free_rowO1 [RowO enc encC sz] (l : List α) : allTs (leafFree 1) (rowT enc l) = true := own_free 0 (rowO_own l)
@[go_sem] theorem len_rowO [h : RowO enc encC sz] (l : List α) : (rowT enc l).length = l.length * sz := rowT_len h.len l
@[go_sem] theorem zn_rowO [h : RowO enc encC sz] : ∀ l : List α, zns (rowT enc l) = rowT encC l
  | [] => rfl
  | x :: l => by rw [rowT_cons, zns_append, h.zn, zn_rowO l, rowT_cons]
@[go_sem] theorem take_rowO [h : RowO enc encC sz] (l : List α) : List.take (l.length * sz) (rowT enc l) = rowT enc l := List.take_of_length_le (by rw [len_rowO]; exact Nat.le_refl _)
@[go_sem] theorem lendR_rowO [RowO enc encC sz] (L : Nat) (l : List α) : lendR (some (sz, rowT enc l)) L 0 l.length = some (.sl false L l.length sz (rowT encC l)) := by
  simp only [lendR, fz_rowO, List.drop_zero, take_rowO, zn_rowO, len_rowO, Nat.zero_add, Nat.le_refl, and_self, if_true]
end
@[go_sem] theorem seals_row {α : Type} {enc : α → List T} {sz : Nat} [h : RowE enc sz] (x : Root) (r : Nat) : ∀ l : List α, sealTs x r (rowT enc l) = rowT enc l := fun l => by
  have : ∀ {l : List T}, l.all plainC = true → sealTs x r l = l := by
    intro l
    induction l with
    | nil => intro _; rfl
    | cons c l ih =>
      intro h
      simp only [List.all_cons, Bool.and_eq_true] at h
      rw [sealTs, ih h.2]
      cases c with
      | sl own => cases own with
        | false => rfl
        | true => simp [plainC] at h
      | v => rfl
      | _ => simp [plainC] at h
  exact this (rowT_plain h.e l)

@[go_sem] theorem cellsAt_c (any : Bool) (e c : Nat) (cs : List T) (p : List Nat) : cellsAt any e cs (c :: p) = (match cs[c]? with | some (.sl true k _ e' cs') => if any || k == 0 then cellsAt any e' cs' p else none | _ => none) := rfl
attribute [go_sem] Bool.false_or Bool.true_or
/-! ### Places in rows -/
class RowL {α : Type} (enc : α → List T) (sz : outParam Nat) : Prop where
  len : ∀ x, (enc x).length = sz
instance {α : Type} {enc : α → List T} {sz : Nat} [h : RowE enc sz] : RowL enc sz := ⟨h.e.len⟩
instance {α : Type} {enc encC : α → List T} {sz : Nat} [h : RowO enc encC sz] : RowL enc sz := ⟨h.len⟩
section
variable {α : Type} {enc : α → List T} {sz : Nat} [h : RowL enc sz]
theorem at_row' (a : List α) (b : List T) (f : Nat) : (rowT enc a ++ b)[a.length * sz + f]? = b[f]? := by
  rw [List.getElem?_append_right (by rw [rowT_len h.len]; omega), rowT_len h.len, Nat.add_sub_cancel_left]
@[go_sem] theorem at_row {i : Nat} {a : List α} {b : List T} {f : Nat} (hi : a.length = i) : (rowT enc a ++ b)[i * sz + f]? = b[f]? := by subst hi; exact at_row' a b f
@[go_sem] theorem at_row0 {i : Nat} {a : List α} {b : List T} (hi : a.length = i) : (rowT enc a ++ b)[i * sz]? = b[0]? := by subst hi; exact at_row' a b 0
theorem set_row' (a : List α) (b : List T) (f : Nat) (x : T) : (rowT enc a ++ b).set (a.length * sz + f) x = rowT enc a ++ b.set f x := by
  rw [List.set_append_right _ _ (by rw [rowT_len h.len]; omega), rowT_len h.len, Nat.add_sub_cancel_left]
@[go_sem] theorem set_row {i : Nat} {a : List α} {b : List T} {f : Nat} {x : T} (hi : a.length = i) : (rowT enc a ++ b).set (i * sz + f) x = rowT enc a ++ b.set f x := by subst hi; exact set_row' a b f x
@[go_sem] theorem set_row0 {i : Nat} {a : List α} {b : List T} {x : T} (hi : a.length = i) : (rowT enc a ++ b).set (i * sz) x = rowT enc a ++ b.set 0 x := by subst hi; exact set_row' a b 0 x
theorem setR_row' (a : List α) : ∀ (ts b : List T) (f : Nat), setR (rowT enc a ++ b) (a.length * sz + f) ts = rowT enc a ++ setR b f ts
  | [], b, f => rfl
  | t :: ts, b, f => by rw [setR, set_row', Nat.add_assoc, setR_row' a ts]; rfl
theorem setR_at {i : Nat} {a : List α} {b ts : List T} {f : Nat} (hi : a.length = i) : setR (rowT enc a ++ b) (i * sz + f) ts = rowT enc a ++ setR b f ts := by subst hi; exact setR_row' a ts b f
theorem setR_at0 {i : Nat} {a : List α} {b ts : List T} (hi : a.length = i) : setR (rowT enc a ++ b) (i * sz) ts = rowT enc a ++ setR b 0 ts := by subst hi; exact setR_row' a ts b 0
theorem loadN_row' (g : Nat → T → Option T) (a : List α) (b : List T) : ∀ (m f : Nat), loadN g (rowT enc a ++ b) (a.length * sz + f) m = loadN (fun j => g (a.length * sz + j)) b f m
  | 0, _ => rfl
  | m + 1, f => by
    rw [loadN, at_row', loadN, Nat.add_assoc, loadN_row' g a b m (f + 1)]
@[go_sem] theorem loadN_at' {i : Nat} {g : Nat → T → Option T} {a : List α} {b : List T} {f m : Nat} (hi : a.length = i) : loadN g (rowT enc a ++ b) (i * sz + f) m = loadN (fun j => g (i * sz + j)) b f m := by subst hi; exact loadN_row' g a b m f
@[go_sem] theorem loadN_at0 {i : Nat} {g : Nat → T → Option T} {a : List α} {b : List T} {m : Nat} (hi : a.length = i) : loadN g (rowT enc a ++ b) (i * sz) m = loadN (fun j => g (i * sz + j)) b 0 m := by subst hi; exact loadN_row' g a b m 0
/-- A row, one of its things in sight. -/
theorem row_split [Inhabited α] (l : List α) (i : Nat) (hi : i < l.length) : rowT enc l = rowT enc (l.take i) ++ (enc (nth l i) ++ rowT enc (l.drop (i + 1))) := by
  conv => lhs; rw [← List.take_append_drop i l, List.drop_eq_getElem_cons hi]
  rw [rowT_append, rowT_cons, nth_nat hi]
theorem row_fold (a : List α) (x : α) (b : List α) : rowT enc a ++ (enc x ++ rowT enc b) = rowT enc (a ++ x :: b) := by rw [rowT_append, rowT_cons]
theorem row_fold1 (a : List α) (x : α) : rowT enc a ++ enc x = rowT enc (a ++ [x]) := by rw [rowT_append, rowT_1]
end
@[go_sem] theorem isEmpty_row {α : Type} {enc : α → List T} {sz : Nat} [h : RowE enc (sz + 1)] (l : List α) : (rowT enc l).isEmpty = l.isEmpty := by
  cases l with
  | nil => rfl
  | cons x l =>
    have := h.e.len x
    rw [rowT_cons]
    cases hx : enc x with
    | nil => rw [hx] at this; simp at this
    | cons => rfl
@[go_sem] theorem isEmpty_rowO {α : Type} {enc encC : α → List T} {sz : Nat} [h : RowO enc encC sz] (l : List α) : (rowT enc l).isEmpty = l.isEmpty := by
  cases l with
  | nil => rfl
  | cons x l =>
    have h1 := h.len x
    have h2 := h.pos
    rw [rowT_cons]
    cases hx : enc x with
    | nil => rw [hx] at h1; simp at h1; omega
    | cons => rfl

/-! ### A row that may be nil where it is empty -/
def rowR {α : Type} (sz r : Nat) (l : List α) : T := match l with | [] => .sl false 0 0 sz [] | _ :: _ => .ref r [] 0 l.length
section
variable {α : Type} (sz r : Nat) (l : List α)
theorem rowR_nil : rowR sz r ([] : List α) = .sl false 0 0 sz [] := rfl
theorem rowR_cons (x : α) : rowR sz r (x :: l) = .ref r [] 0 (x :: l).length := rfl
theorem rowR_ne {l : List α} (h : l ≠ []) : rowR sz r l = .ref r [] 0 l.length := by cases l with | nil => exact absurd rfl h | cons => rfl
def gcR : Option Nat → T
  | some i => rowR sz i l
  | none => match l with | [] => .sl false 0 0 sz [] | _ :: _ => .dead
@[go_sem high] theorem gc_rowR (keep : List Nat) : gcT keep (rowR sz r l) = gcR sz l (keep.idxOf? r) := by
  cases l with
  | nil => cases keep.idxOf? r <;> simp [rowR, gcT, gcR]
  | cons => simp only [rowR, gcT, gcR]; cases keep.idxOf? r <;> rfl
@[go_sem] theorem gcR_some (i : Nat) : gcR sz l (some i) = rowR sz i l := rfl
@[go_sem high] theorem ren_rowR (g : Nat → Nat) : ren g (rowR sz r l) = rowR sz (g r) l := by cases l <;> simp [rowR, ren]
def reR : Option (Nat × List Nat) → T
  | some (i, []) => rowR sz i l
  | some (i, p) => match l with | [] => .sl false 0 0 sz [] | _ :: _ => .ref i p 0 l.length
  | none => match l with | [] => .sl false 0 0 sz [] | _ :: _ => .dead
@[go_sem high] theorem re_rowR (f : NMap) : reT f (rowR sz r l) = reR sz l (f r []) := by
  cases l with
  | nil =>
    simp only [rowR, reT_sl]
    cases f r [] with
    | none => rfl
    | some x => obtain ⟨i, p⟩ := x; cases p <;> rfl
  | cons a l =>
    simp only [rowR, reT]
    cases f r [] with
    | none => rfl
    | some x => obtain ⟨i, p⟩ := x; cases p <;> rfl
@[go_sem] theorem reR_some (i : Nat) : reR sz l (some (i, [])) = rowR sz i l := rfl
@[go_sem high] theorem fz_rowR {r q : Nat} (x : Root) (h : (r == q) = false) : fzT x q (rowR sz r l) = rowR sz r l := by
  have h : r ≠ q := by simpa using h
  cases l with
  | nil => simp [rowR, fzT]
  | cons => simp only [rowR, fzT, if_neg h]
@[go_sem high] theorem seal_rowR {r q : Nat} (x : Root) (h : (r == q) = false) : sealT x q (rowR sz r l) = rowR sz r l := by
  have h : r ≠ q := by simpa using h
  cases l with
  | nil => simp [rowR, sealT]
  | cons => simp only [rowR, sealT, if_neg h]
@[go_sem high] theorem free_rowR (L : Nat) : allT (leafFree (L + 1)) (rowR sz r l) = true := by cases l <;> simp [rowR, allT, leafFree]
@[go_sem high] theorem leafFree_rowR (L : Nat) : leafFree (L + 1) (rowR sz r l) = true := by cases l <;> simp [rowR, leafFree]
@[go_sem high] theorem loadCell_rowR (q j : Nat) (p : List Nat) : loadCell q p j (rowR sz r l) = some (rowR sz r l) := by cases l <;> rfl
@[go_sem high] theorem cellOk_rowR : cellOk (rowR sz r l) = true := by cases l <;> rfl
@[go_sem high] theorem oneT_rowR : oneT (rowR sz r l) = true := by cases l <;> rfl
@[go_sem high] theorem comps_rowR : compsT (rowR sz r l) = [rowR sz r l] := by cases l <;> rfl
@[go_sem high] theorem zn_rowR' : zn (rowR sz r l) = rowR sz r l := by cases l <;> simp [rowR, zn]
/-- Is there what is referred to? -/
def thereR (x : Option (Nat × List T)) : Bool := match l with | [] => true | _ :: _ => x.isSome
@[go_sem high] theorem live_rowR (S : Store) : liveT S (rowR sz r l) = thereR l (S.at false r []) := by cases l <;> rfl
@[go_sem] theorem there_ite (x : Nat × List T) : thereR l (if (!l.isEmpty) = true then some x else none) = true := by cases l <;> rfl
@[go_sem] theorem there_some (x : Nat × List T) : thereR l (some x) = true := by cases l <;> rfl
@[go_sem high] theorem len_rowR {P : Program} {t : TypeId} (S : Store) : lenT P S t (rowR sz r l) = if thereR l (S.at false r []) = true then (elemT P t).map fun _ => .v (.int .i64 l.length) else none := by cases l <;> rfl
/-- What is lent. -/
def lendRR (x : Option (Nat × List T)) (L : Nat) : Option T := match l with | [] => some (.sl false L 0 sz []) | _ :: _ => lendR x L 0 l.length
@[go_sem high] theorem lend_rowR (S : Store) (L : Nat) (ts : List T) : lendTs true S [] L (rowR sz r l :: ts) = (lendRR sz l (S.at false r []) L).bind fun t => (lendTs true S [] L ts).map (t :: ·) := by
  cases l with
  | nil => rw [rowR_nil, lend_sl]; rfl
  | cons => rw [rowR_cons, lend_ref]; rfl
end
@[go_sem] theorem lendRR_row {α : Type} {enc : α → List T} {sz : Nat} [RowE enc sz] (L : Nat) (l : List α) : lendRR sz l (if (!l.isEmpty) = true then some (sz, rowT enc l) else none) L = some (.sl false L l.length sz (rowT enc l)) := by
  cases l with
  | nil => rfl
  | cons x l => exact lendR_row L (x :: l)
@[go_sem] theorem lendRR_rowO {α : Type} {enc encC : α → List T} {sz : Nat} [RowO enc encC sz] (L : Nat) (l : List α) : lendRR sz l (if (!l.isEmpty) = true then some (sz, rowT enc l) else none) L = some (.sl false L l.length sz (rowT encC l)) := by
  cases l with
  | nil => rfl
  | cons x l => exact lendR_rowO L (x :: l)
@[go_sem] theorem sealRef_row {α : Type} {enc : α → List T} {sz : Nat} [RowE enc (sz + 1)] (r : Nat) (l : List α) : sealRef ⟨sz + 1, true, rowT enc l⟩ r 0 l.length = rowR (sz + 1) r l := by
  unfold sealRef
  rw [isEmpty_row]
  cases l <;> rfl
@[go_sem] theorem sealRef_rowO {α : Type} {enc encC : α → List T} {sz : Nat} [RowO enc encC sz] (r : Nat) (l : List α) : sealRef ⟨sz, true, rowT enc l⟩ r 0 l.length = rowR sz r l := by
  unfold sealRef
  rw [isEmpty_rowO]
  cases l <;> rfl
attribute [go_sem] sealS sealTs Bool.true_and
@[go_sem] theorem sealT_v (x : Root) (r : Nat) (y : Value) : sealT x r (.v y) = .v y := by simp [sealT]
@[go_sem] theorem sealT_sl (x : Root) (r k n e : Nat) (cs : List T) : sealT x r (.sl false k n e cs) = .sl false k n e cs := by simp [sealT]
@[go_sem] theorem sealT_agg (x : Root) (r : Nat) (cs : List T) : sealT x r (.agg cs) = .agg (sealTs x r cs) := by simp [sealT]
@[go_sem] theorem sealT_tup (x : Root) (r : Nat) (cs : List T) : sealT x r (.tup cs) = .tup (sealTs x r cs) := by simp [sealT]
@[go_sem] theorem sealT_dead (x : Root) (r : Nat) : sealT x r .dead = .dead := by simp [sealT]
@[go_sem] theorem sealT_ptr (x : Root) (r q off : Nat) (p : List Nat) : sealT x r (.ptr q p off) = .ptr q p off := by simp [sealT]
@[go_sem] theorem sealT_ref (x : Root) (r q off n : Nat) : sealT x r (.ref q [] off n) = if q = r then sealRef x r off n else .ref q [] off n := by simp [sealT]

/-! ### The steps, found by reckoning -/
attribute [go_sem] stripP nestF outF inF deadS
theorem nestS_eq {S : Store} {b : Bool} {r : Nat} {p : List Nat} {j q : Nat} : nestS b r p j q S = (match S.at false r p with
  | some (_, cs) => match cs[j]? with
    | some (.ref q' [] 0 n) => if q' = q ∧ q ≠ r ∧ (rootAt S q).live = true ∧ (rootAt S q).cs.length = n * (rootAt S q).e then
        reS (nestF r p j q S.length) ((S.kill r).kill q ++ [⟨(rootAt S r).e, true, updAt (·.set j (ownB b n (rootAt S q).e (rootAt S q).cs)) (rootAt S r).cs p⟩])
      else deadS S
    | _ => deadS S
  | none => deadS S) := rfl
attribute [go_sem] nestS_eq outS updAt

/-! ### Calls that are lent roots -/
theorem lendN_cons (rt : Bool) (S : Store) (ρ : List Nat) (L : Nat) (c : T) (l : List T) : lendTs rt S ρ L (c :: l) = (lendT rt S ρ L c).bind fun t => (lendTs rt S ρ L l).map (t :: ·) := by
  rw [lendTs]
  cases lendT rt S ρ L c <;> cases lendTs rt S ρ L l <;> rfl
section
variable (rt : Bool) (S : Store) (a : Nat) (ρ : List Nat) (L : Nat) (l : List T)
@[go_sem low] theorem lendN_nil : lendTs rt S (a :: ρ) L [] = some [] := rfl
@[go_sem low] theorem lendN_v (x : Value) : lendTs rt S (a :: ρ) L (.v x :: l) = (lendTs rt S (a :: ρ) L l).map (.v x :: ·) := by rw [lendN_cons, lendT]; rfl
@[go_sem low] theorem lendN_sl (k n e : Nat) (cs : List T) : lendTs rt S (a :: ρ) L (.sl false k n e cs :: l) = (lendTs rt S (a :: ρ) L l).map (.sl false (if rt = true then L else k) n e cs :: ·) := by rw [lendN_cons, lendT]; rfl
@[go_sem low] theorem lendN_agg (cs : List T) : lendTs rt S (a :: ρ) L (.agg cs :: l) = (lendTs rt S (a :: ρ) L cs).bind fun cs => (lendTs rt S (a :: ρ) L l).map (.agg cs :: ·) := by
  rw [lendN_cons, lendT]; cases lendTs rt S (a :: ρ) L cs <;> rfl
def lendI (x : Option Nat) (p : List Nat) (off n : Nat) (y : Option T) : Option T := match x with | some i => some (.ref i p off n) | none => y
@[go_sem] theorem lendI_s (i : Nat) (p : List Nat) (off n : Nat) (y : Option T) : lendI (some i) p off n y = some (.ref i p off n) := rfl
@[go_sem] theorem lendI_n (p : List Nat) (off n : Nat) (y : Option T) : lendI none p off n y = y := rfl
@[go_sem low] theorem lendN_ref (r off n : Nat) (p : List Nat) : lendTs rt S (a :: ρ) L (.ref r p off n :: l) = (lendI ((a :: ρ).idxOf? r) p off n (lendR (S.at false r p) L off n)).bind fun t => (lendTs rt S (a :: ρ) L l).map (t :: ·) := by
  rw [lendN_cons, lendT]
  cases (a :: ρ).idxOf? r <;> rfl
def lendJ (x : Option Nat) (p : List Nat) (off : Nat) (y : Option T) : Option T := match x with | some i => some (.ptr i p off) | none => y
@[go_sem] theorem lendJ_s (i : Nat) (p : List Nat) (off : Nat) (y : Option T) : lendJ (some i) p off y = some (.ptr i p off) := rfl
@[go_sem] theorem lendJ_n (p : List Nat) (off : Nat) (y : Option T) : lendJ none p off y = y := rfl
@[go_sem low] theorem lendN_ptr (r off : Nat) (p : List Nat) : lendTs rt S (a :: ρ) L (.ptr r p off :: l) = (lendJ ((a :: ρ).idxOf? r) p off (lendP (S.at false r p) L off)).bind fun t => (lendTs rt S (a :: ρ) L l).map (t :: ·) := by
  rw [lendN_cons, lendT]
  cases (a :: ρ).idxOf? r <;> rfl
def lendK {α : Type} (sz : Nat) (l : List α) (L : Nat) : Option Nat → Option (Nat × List T) → Option T
  | some i, _ => some (rowR sz i l)
  | none, y => match l with | [] => some (.sl false 0 0 sz []) | _ :: _ => lendR y L 0 l.length
@[go_sem] theorem lendK_s {α : Type} (sz i L : Nat) (l : List α) (y : Option (Nat × List T)) : lendK sz l L (some i) y = some (rowR sz i l) := rfl
@[go_sem low] theorem lendN_rowR {α : Type} (sz r : Nat) (xs : List α) : lendTs false S (a :: ρ) L (rowR sz r xs :: l) = (lendK sz xs L ((a :: ρ).idxOf? r) (S.at false r [])).bind fun t => (lendTs false S (a :: ρ) L l).map (t :: ·) := by
  cases xs with
  | nil =>
    rw [rowR_nil, lendN_cons, lendT]
    cases (a :: ρ).idxOf? r <;> rfl
  | cons x xs =>
    rw [rowR_cons, lendN_cons, lendT]
    cases (a :: ρ).idxOf? r <;> rfl
end
attribute [go_sem] backS List.zipIdx_cons List.zipIdx_nil List.drop_zero List.drop_succ_cons List.drop_nil
@[go_sem] theorem backId_eq (ρ : List Nat) (n i : Nat) : backId ρ n i = match ρ[i]? with | some r => r | none => n + (i - ρ.length) := rfl

section
variable {P : Program} {n : Nat} {S : Store} {fr : Nat → T} {ops : Array Oper} {d : Nat} {ty : TypeId} {pos : String} {aft : Array Edge} {rest : List Oper} {K : (Nat → T) → Store → Prop}
/-- A call that is lent roots (ρ). -/
theorem r_calln {pu pu' : Dr} {gd : Option (Nat × Bool)} {f : FuncId} {args : List Operand} {tys : Array TypeId} {ts2 : List T} {res2 res : T} {S0 S1 S' : Store} (ρ : List Nat) (hs : CallsT P S0 f ts2 res2 S1) (h : wpOpsT P ops n pu' rest K (upd fr d res) S')
    (hw : wantedT ops fr ⟨some d, .call ⟨.value (.func f), args.toArray, tys⟩, ty, pos, aft, gd⟩ = some true := by rfl)
    (hS0 : gcS ρ S = S0 := by (first | (simp only [go_sem, ↓reduceIte, Nat.reduceEqDiff, Nat.reduceMul, Nat.reduceAdd, Nat.reduceSub, Nat.reduceLT, Nat.reduceGT, Nat.reduceLeDiff, Nat.reduceBEq, Int.reduceLT, Int.reduceLE, Int.reduceNe, Int.reduceEq, Int.reduceToNat, Int.reduceAdd, Int.reduceSub, Int.reduceMul, Int.reduceNeg, Nat.reducePow, Int.reducePow, Nat.reduceSubDiff, decide_true, decide_false, reduceCtorEq, or_self, or_false, false_or, or_true, true_or, if_false, gt_iff_lt, ge_iff_le, ne_eq, not_true_eq_false, not_false_eq_true, and_self, beq_self_eq_true, Bool.false_eq_true] <;> with_reducible rfl) | with_reducible rfl)) {ts1 : List T} (hk : Wks (args.map (TL.ev fr)) ts1 := by first | exact Wks.same _ | (simp only [go_sem, ↓reduceIte, Nat.reduceEqDiff, Nat.reduceMul, Nat.reduceAdd, Nat.reduceSub, Nat.reduceLT, Nat.reduceGT, Nat.reduceLeDiff, Nat.reduceBEq, Int.reduceLT, Int.reduceLE, Int.reduceNe, Int.reduceEq, Int.reduceToNat, Int.reduceAdd, Int.reduceSub, Int.reduceMul, Int.reduceNeg, Nat.reducePow, Int.reducePow, Nat.reduceSubDiff, decide_true, decide_false, reduceCtorEq, or_self, or_false, false_or, or_true, true_or, if_false, gt_iff_lt, ge_iff_le, ne_eq, not_true_eq_false, not_false_eq_true, and_self, beq_self_eq_true, Bool.false_eq_true]; try (repeat (first | exact True.intro | exact Wk.refl _ | exact Wk.nil _ _ | exact Wk.dead _ | exact Wk.bT (by assumption) | exact Wk.bF (by assumption) | exact Wk.eqI (by omega) | exact WkS.refl _ | exact Wks.same _ | exact Wks.nil | exact WkS.nil | refine And.intro ?_ ?_ | refine Wk.aggs ?_ | refine Wk.tups ?_ | refine Wks.cons ?_ ?_ | refine WkS.cons (by first | exact fun _ => rfl | exact fun h => absurd h Bool.false_ne_true) ?_ ?_ ?_ | assumption | exact (fun h => h) | exact (fun h => absurd h Bool.false_ne_true) | intro _)))) (ha : lendTs false S ρ 1 ts1 = some ts2 := by (first | (simp only [go_sem, ↓reduceIte, Nat.reduceEqDiff, Nat.reduceMul, Nat.reduceAdd, Nat.reduceSub, Nat.reduceLT, Nat.reduceGT, Nat.reduceLeDiff, Nat.reduceBEq, Int.reduceLT, Int.reduceLE, Int.reduceNe, Int.reduceEq, Int.reduceToNat, Int.reduceAdd, Int.reduceSub, Int.reduceMul, Int.reduceNeg, Nat.reducePow, Int.reducePow, Nat.reduceSubDiff, decide_true, decide_false, reduceCtorEq, or_self, or_false, false_or, or_true, true_or, if_false, gt_iff_lt, ge_iff_le, ne_eq, not_true_eq_false, not_false_eq_true, and_self, beq_self_eq_true, Bool.false_eq_true] <;> with_reducible rfl) | with_reducible rfl))
    (hr : allT (leafFree 1) res2 = true := by (first | (simp only [go_sem, ↓reduceIte, Nat.reduceEqDiff, Nat.reduceMul, Nat.reduceAdd, Nat.reduceSub, Nat.reduceLT, Nat.reduceGT, Nat.reduceLeDiff, Nat.reduceBEq, Int.reduceLT, Int.reduceLE, Int.reduceNe, Int.reduceEq, Int.reduceToNat, Int.reduceAdd, Int.reduceSub, Int.reduceMul, Int.reduceNeg, Nat.reducePow, Int.reducePow, Nat.reduceSubDiff, decide_true, decide_false, reduceCtorEq, or_self, or_false, false_or, or_true, true_or, if_false, gt_iff_lt, ge_iff_le, ne_eq, not_true_eq_false, not_false_eq_true, and_self, beq_self_eq_true, Bool.false_eq_true] <;> with_reducible rfl) | with_reducible rfl)) (hf : freeS 1 S1 = true := by (first | (simp only [go_sem, ↓reduceIte, Nat.reduceEqDiff, Nat.reduceMul, Nat.reduceAdd, Nat.reduceSub, Nat.reduceLT, Nat.reduceGT, Nat.reduceLeDiff, Nat.reduceBEq, Int.reduceLT, Int.reduceLE, Int.reduceNe, Int.reduceEq, Int.reduceToNat, Int.reduceAdd, Int.reduceSub, Int.reduceMul, Int.reduceNeg, Nat.reducePow, Int.reducePow, Nat.reduceSubDiff, decide_true, decide_false, reduceCtorEq, or_self, or_false, false_or, or_true, true_or, if_false, gt_iff_lt, ge_iff_le, ne_eq, not_true_eq_false, not_false_eq_true, and_self, beq_self_eq_true, Bool.false_eq_true] <;> with_reducible rfl) | with_reducible rfl))
    (hres : ren (backId ρ S.length) res2 = res := by (first | (simp only [go_sem, ↓reduceIte, Nat.reduceEqDiff, Nat.reduceMul, Nat.reduceAdd, Nat.reduceSub, Nat.reduceLT, Nat.reduceGT, Nat.reduceLeDiff, Nat.reduceBEq, Int.reduceLT, Int.reduceLE, Int.reduceNe, Int.reduceEq, Int.reduceToNat, Int.reduceAdd, Int.reduceSub, Int.reduceMul, Int.reduceNeg, Nat.reducePow, Int.reducePow, Nat.reduceSubDiff, decide_true, decide_false, reduceCtorEq, or_self, or_false, false_or, or_true, true_or, if_false, gt_iff_lt, ge_iff_le, ne_eq, not_true_eq_false, not_false_eq_true, and_self, beq_self_eq_true, Bool.false_eq_true] <;> with_reducible rfl) | with_reducible rfl)) (hS : backS ρ S S1 = S' := by (first | (simp only [go_sem, ↓reduceIte, Nat.reduceEqDiff, Nat.reduceMul, Nat.reduceAdd, Nat.reduceSub, Nat.reduceLT, Nat.reduceGT, Nat.reduceLeDiff, Nat.reduceBEq, Int.reduceLT, Int.reduceLE, Int.reduceNe, Int.reduceEq, Int.reduceToNat, Int.reduceAdd, Int.reduceSub, Int.reduceMul, Int.reduceNeg, Nat.reducePow, Int.reducePow, Nat.reduceSubDiff, decide_true, decide_false, reduceCtorEq, or_self, or_false, false_or, or_true, true_or, if_false, gt_iff_lt, ge_iff_le, ne_eq, not_true_eq_false, not_false_eq_true, and_self, beq_self_eq_true, Bool.false_eq_true] <;> with_reducible rfl) | with_reducible rfl)) (hd : Nat.blt d n = true := by rfl)
    (hnd : ρ.Nodup := by decide) (hlt : (ρ.all fun r => Nat.blt r S.length) = true := by rfl) (hlen : Nat.ble ρ.length S1.length = true := by rfl)
    (hp : Dr.step P ops n pu fr S ⟨some d, .call ⟨.value (.func f), args.toArray, tys⟩, ty, pos, aft, gd⟩ res S' pu' := by first | exact Dr.step.txt | exact dr_chain) :
    wpOpsT P ops n pu (⟨some d, .call ⟨.value (.func f), args.toArray, tys⟩, ty, pos, aft, gd⟩ :: rest) K fr S := by
  have hF : FreeS 1 S1 := fun x hx _ => List.all_eq_true.1 hf x hx
  have hfits : Fits S ρ S0 := ⟨by rw [← hS0, gcS, List.length_map], hnd, fun r hr => by have := List.all_eq_true.1 hlt r hr; simpa [Nat.blt_eq] using this, hS0.symm⟩
  have := hs.frame 1 (by decide) hfits hk ha hr hF (Nat.le_of_ble_eq_true hlen)
  rw [hres, hS] at this
  exact r_op (opT_call hw (by simpa [okDst, Nat.blt_eq] using hd) (by simp [calleeT, TL.ev]) this) hp h

/-- A call whose contract speaks of these very roots. -/
theorem r_callT {pu pu' : Dr} {gd : Option (Nat × Bool)} {f : FuncId} {args : List Operand} {tys : Array TypeId} {ts : List T} {res : T} {S' S2 : Store} (hs : CallsT P S f ts res S') (h : wpOpsT P ops n pu' rest K (upd fr d res) S2)
    (hw : wantedT ops fr ⟨some d, .call ⟨.value (.func f), args.toArray, tys⟩, ty, pos, aft, gd⟩ = some true := by rfl)
    (ha : args.map (TL.ev fr) = ts := by (first | (simp only [go_sem, ↓reduceIte, Nat.reduceEqDiff, Nat.reduceMul, Nat.reduceAdd, Nat.reduceSub, Nat.reduceLT, Nat.reduceGT, Nat.reduceLeDiff, Nat.reduceBEq, Int.reduceLT, Int.reduceLE, Int.reduceNe, Int.reduceEq, Int.reduceToNat, Int.reduceAdd, Int.reduceSub, Int.reduceMul, Int.reduceNeg, Nat.reducePow, Int.reducePow, Nat.reduceSubDiff, decide_true, decide_false, reduceCtorEq, or_self, or_false, false_or, or_true, true_or, if_false, gt_iff_lt, ge_iff_le, ne_eq, not_true_eq_false, not_false_eq_true, and_self, beq_self_eq_true, Bool.false_eq_true] <;> with_reducible rfl) | with_reducible rfl)) (hd : Nat.blt d n = true := by rfl) (hS : S' = S2 := by ((simp (disch := omega) only [go_sem, ↓reduceIte, Nat.reduceEqDiff, Nat.reduceMul, Nat.reduceAdd, Nat.reduceSub, Nat.reduceLT, Nat.reduceGT, Nat.reduceLeDiff, Nat.reduceBEq, Int.reduceLT, Int.reduceLE, Int.reduceNe, Int.reduceEq, Int.reduceToNat, Int.reduceAdd, Int.reduceSub, Int.reduceMul, Int.reduceNeg, Nat.reducePow, Int.reducePow, Nat.reduceSubDiff, decide_true, decide_false, reduceCtorEq, or_self, or_false, false_or, or_true, true_or, if_false, gt_iff_lt, ge_iff_le, ne_eq, not_true_eq_false, not_false_eq_true, and_self, beq_self_eq_true, Bool.false_eq_true]) <;> with_reducible rfl))
    (hp : Dr.step P ops n pu fr S ⟨some d, .call ⟨.value (.func f), args.toArray, tys⟩, ty, pos, aft, gd⟩ res S2 pu' := by first | exact Dr.step.txt | exact dr_chain) :
    wpOpsT P ops n pu (⟨some d, .call ⟨.value (.func f), args.toArray, tys⟩, ty, pos, aft, gd⟩ :: rest) K fr S := by
  subst ha
  subst hS
  exact r_op (opT_call hw (by simpa [okDst, Nat.blt_eq] using hd) (by simp [calleeT, TL.ev]) hs) hp h

/-- A function that writes into one row, the row lying in a cell. -/
theorem calls_cell {S : Store} {r : Nat} {p : List Nat} {j m e e0 : Nat} {cs0 cs1 cs2 : List T} {f : FuncId} {x y : Value} (h1 : S.at false r p = some (e0, cs0)) (h2 : cs0[j]? = some (.sl true 0 m e cs1))
    (hs : CallsT P [⟨e, true, cs1⟩] f [.ref 0 [] 0 m, .v y] (.v x) [⟨e, true, cs2⟩]) (hl : cs2.length = m * e) (hc1 : allTs leafOwn cs1 = true) (hc2 : allTs leafOwn cs2 = true) :
    CallsT P S f [.ref r (p ++ [j]) 0 m, .v y] (.v x) (reS (inF r p j S.length) (S.upd r p (·.set j (.sl true 0 m e cs2)))) := by
  have hN : (S.upd r p (·.set j (.ref S.length [] 0 m))).length = S.length := Store.upd_length _ _ _ _
  have hget : (S.upd r p (·.set j (.ref S.length [] 0 m)) ++ [(⟨e, true, cs1⟩ : Root)])[S.length]? = some ⟨e, true, cs1⟩ := by
    rw [List.getElem?_append_right (by rw [hN]; exact Nat.le_refl _), hN, Nat.sub_self]; rfl
  have hfits := fits_one (S := S.upd r p (·.set j (.ref S.length [] 0 m)) ++ [(⟨e, true, cs1⟩ : Root)]) hget (own_gcs (keep := [S.length]) cs1 hc1)
  have hF : FreeS 1 [(⟨e, true, cs2⟩ : Root)] := fun z hz _ => by
    rw [List.mem_singleton.1 hz]; exact own_free 0 hc2
  have hfr := hs.frame (args := [.ref S.length [] 0 m, .v y]) (rt := false) 1 (by decide) hfits (.same _) (by
    rw [lend1_cons, lendT, List.idxOf?_cons, beq_self_eq_true]; rfl) rfl hF (Nat.le_refl _)
  rw [back_one] at hfr
  have hset : (S.upd r p (·.set j (.ref S.length [] 0 m)) ++ [(⟨e, true, cs1⟩ : Root)]).set S.length (Root.ren (backId [S.length] (S.upd r p (·.set j (.ref S.length [] 0 m)) ++ [(⟨e, true, cs1⟩ : Root)]).length) ⟨e, true, cs2⟩) = S.upd r p (·.set j (.ref S.length [] 0 m)) ++ [(⟨e, true, cs2⟩ : Root)] := by
    rw [List.set_append_right _ _ (by rw [hN]; exact Nat.le_refl _), hN, Nat.sub_self, Root.ren, own_rens _ hc2]; rfl
  rw [hset] at hfr
  have := CallsT.node h1 h2 hfr hl (args := [.ref r (p ++ [j]) 0 m, .v y]) (by
    simp only [List.map_cons, List.map_nil, reT, outF, if_true]
    have := stripP_app (p ++ [j]) []
    rw [List.append_nil] at this
    rw [this])
  exact this
end

section
variable {P : Program} {n : Nat} {S S2 : Store} {fr : Nat → T} {ops : Array Oper} {d : Nat} {ty : TypeId} {pos : String} {aft : Array Edge} {rest : List Oper} {K : (Nat → T) → Store → Prop} {t : TypeId} {x y : Operand}
/-- Some cells of a root written. -/
def setS : Store → Nat → Nat → List T → Store
  | [], _, _, _ => []
  | x :: S, 0, off, ts => ⟨x.e, x.live, setR x.cs off ts⟩ :: S
  | x :: S, r + 1, off, ts => x :: setS S r off ts
theorem setS_eq : ∀ (S : Store) (r off : Nat) (ts : List T), setS S r off ts = S.upd r [] (fun c => setR c off ts)
  | [], r, off, ts => by simp [setS, Store.upd]
  | x :: S, 0, off, ts => by simp [setS, Store.upd, updAt]
  | x :: S, r + 1, off, ts => by
    rw [setS, setS_eq S r off ts]
    unfold Store.upd
    simp only [List.getElem?_cons_succ]
    cases S[r]? <;> simp
@[go_sem ↓] theorem setS_0 (e : Nat) (l : Bool) (cs : List T) (S : Store) (off : Nat) (ts : List T) : setS (⟨e, l, cs⟩ :: S) 0 off ts = ⟨e, l, setR cs off ts⟩ :: S := rfl
@[go_sem ↓] theorem setS_s (x : Root) (S : Store) (r off : Nat) (ts : List T) : setS (x :: S) (r + 1) off ts = x :: setS S r off ts := rfl
@[go_sem ↓] theorem setS_1 (x : Root) (S : Store) (off : Nat) (ts : List T) : setS (x :: S) 1 off ts = x :: setS S 0 off ts := rfl
@[go_sem ↓] theorem setS_2 (x : Root) (S : Store) (off : Nat) (ts : List T) : setS (x :: S) 2 off ts = x :: setS S 1 off ts := rfl
@[go_sem ↓] theorem setS_3 (x : Root) (S : Store) (off : Nat) (ts : List T) : setS (x :: S) 3 off ts = x :: setS S 2 off ts := rfl
@[go_sem ↓] theorem setS_4 (x : Root) (S : Store) (off : Nat) (ts : List T) : setS (x :: S) 4 off ts = x :: setS S 3 off ts := rfl
@[go_sem ↓] theorem setS_5 (x : Root) (S : Store) (off : Nat) (ts : List T) : setS (x :: S) 5 off ts = x :: setS S 4 off ts := rfl
@[go_sem ↓] theorem setS_6 (x : Root) (S : Store) (off : Nat) (ts : List T) : setS (x :: S) 6 off ts = x :: setS S 5 off ts := rfl
attribute [go_sem ↓] setR_at setR_at0
attribute [go_sem] Int.toNat_natCast
/-- A store of some cells into a row of one's own. -/
theorem r_stw {pu pu' : Dr} {gd : Option (Nat × Bool)} {cs ts : List T} {r off m e0 : Nat} (h : wpOpsT P ops n pu' rest K fr S2)
    (hw : wantedT ops fr ⟨none, .store t x y, ty, pos, aft, gd⟩ = some true := by rfl) (hc : calleeT fr ⟨none, .store t x y, ty, pos, aft, gd⟩ = none := by rfl)
    (hx : TL.ev fr x = .ptr r [] off := by (first | (simp only [go_sem, ↓reduceIte, Nat.reduceEqDiff, Nat.reduceMul, Nat.reduceAdd, Nat.reduceSub, Nat.reduceLT, Nat.reduceGT, Nat.reduceLeDiff, Nat.reduceBEq, Int.reduceLT, Int.reduceLE, Int.reduceNe, Int.reduceEq, Int.reduceToNat, Int.reduceAdd, Int.reduceSub, Int.reduceMul, Int.reduceNeg, Nat.reducePow, Int.reducePow, Nat.reduceSubDiff, decide_true, decide_false, reduceCtorEq, or_self, or_false, false_or, or_true, true_or, if_false, gt_iff_lt, ge_iff_le, ne_eq, not_true_eq_false, not_false_eq_true, and_self, beq_self_eq_true, Bool.false_eq_true] <;> with_reducible rfl) | with_reducible rfl)) (hat : S.at false r [] = some (e0, cs) := by (first | (simp only [go_sem, ↓reduceIte, Nat.reduceEqDiff, Nat.reduceMul, Nat.reduceAdd, Nat.reduceSub, Nat.reduceLT, Nat.reduceGT, Nat.reduceLeDiff, Nat.reduceBEq, Int.reduceLT, Int.reduceLE, Int.reduceNe, Int.reduceEq, Int.reduceToNat, Int.reduceAdd, Int.reduceSub, Int.reduceMul, Int.reduceNeg, Nat.reducePow, Int.reducePow, Nat.reduceSubDiff, decide_true, decide_false, reduceCtorEq, or_self, or_false, false_or, or_true, true_or, if_false, gt_iff_lt, ge_iff_le, ne_eq, not_true_eq_false, not_false_eq_true, and_self, beq_self_eq_true, Bool.false_eq_true] <;> with_reducible rfl) | with_reducible rfl)) (hy : compsT (TL.ev fr y) = ts := by (first | (simp only [go_sem, ↓reduceIte, Nat.reduceEqDiff, Nat.reduceMul, Nat.reduceAdd, Nat.reduceSub, Nat.reduceLT, Nat.reduceGT, Nat.reduceLeDiff, Nat.reduceBEq, Int.reduceLT, Int.reduceLE, Int.reduceNe, Int.reduceEq, Int.reduceToNat, Int.reduceAdd, Int.reduceSub, Int.reduceMul, Int.reduceNeg, Nat.reducePow, Int.reducePow, Nat.reduceSubDiff, decide_true, decide_false, reduceCtorEq, or_self, or_false, false_or, or_true, true_or, if_false, gt_iff_lt, ge_iff_le, ne_eq, not_true_eq_false, not_false_eq_true, and_self, beq_self_eq_true, Bool.false_eq_true] <;> with_reducible rfl) | with_reducible rfl)) (hz : szT P t = some m := by (first | (simp only [go_sem, ↓reduceIte, Nat.reduceEqDiff, Nat.reduceMul, Nat.reduceAdd, Nat.reduceSub, Nat.reduceLT, Nat.reduceGT, Nat.reduceLeDiff, Nat.reduceBEq, Int.reduceLT, Int.reduceLE, Int.reduceNe, Int.reduceEq, Int.reduceToNat, Int.reduceAdd, Int.reduceSub, Int.reduceMul, Int.reduceNeg, Nat.reducePow, Int.reducePow, Nat.reduceSubDiff, decide_true, decide_false, reduceCtorEq, or_self, or_false, false_or, or_true, true_or, if_false, gt_iff_lt, ge_iff_le, ne_eq, not_true_eq_false, not_false_eq_true, and_self, beq_self_eq_true, Bool.false_eq_true] <;> with_reducible rfl) | with_reducible rfl))
    (hm : ts.length = m := by rfl) (hok : storable S ts = true := by (first | (simp only [go_sem, ↓reduceIte, Nat.reduceEqDiff, Nat.reduceMul, Nat.reduceAdd, Nat.reduceSub, Nat.reduceLT, Nat.reduceGT, Nat.reduceLeDiff, Nat.reduceBEq, Int.reduceLT, Int.reduceLE, Int.reduceNe, Int.reduceEq, Int.reduceToNat, Int.reduceAdd, Int.reduceSub, Int.reduceMul, Int.reduceNeg, Nat.reducePow, Int.reducePow, Nat.reduceSubDiff, decide_true, decide_false, reduceCtorEq, or_self, or_false, false_or, or_true, true_or, if_false, gt_iff_lt, ge_iff_le, ne_eq, not_true_eq_false, not_false_eq_true, and_self, beq_self_eq_true, Bool.false_eq_true] <;> with_reducible rfl) | with_reducible rfl))
    (hS : setS S r off ts = S2 := by ((simp (disch := omega) only [go_sem, ↓reduceIte, Nat.reduceEqDiff, Nat.reduceMul, Nat.reduceAdd, Nat.reduceSub, Nat.reduceLT, Nat.reduceGT, Nat.reduceLeDiff, Nat.reduceBEq, Int.reduceLT, Int.reduceLE, Int.reduceNe, Int.reduceEq, Int.reduceToNat, Int.reduceAdd, Int.reduceSub, Int.reduceMul, Int.reduceNeg, Nat.reducePow, Int.reducePow, Nat.reduceSubDiff, decide_true, decide_false, reduceCtorEq, or_self, or_false, false_or, or_true, true_or, if_false, gt_iff_lt, ge_iff_le, ne_eq, not_true_eq_false, not_false_eq_true, and_self, beq_self_eq_true, Bool.false_eq_true]) <;> with_reducible rfl))
    (hle : off + m ≤ cs.length := by (simp only [cat1_len, lit2_len, List.length_replicate, List.length_append, List.length_cons, List.length_nil, List.length_take, List.length_drop, List.length_map, List.length_set, len_rowO, len_row]; omega))
    (hp : Dr.step P ops n pu fr S ⟨none, .store t x y, ty, pos, aft, gd⟩ .dead S2 pu' := by first | exact Dr.step.txt | exact dr_chain) :
    wpOpsT P ops n pu (⟨none, .store t x y, ty, pos, aft, gd⟩ :: rest) K fr S := by
  refine r_op (opT_do hw rfl hc (t := .dead) (S' := S2) ?_) hp h
  rw [s_store, hx]
  unfold storeT
  simp only [hat, hz, hy]
  rw [if_pos ⟨hm.symm, hle, hok⟩, ← hS, setS_eq, Option.map_some]
/-- An append to a row of one's own, cell by cell. -/
theorem r_apw {pu pu' : Dr} {gd : Option (Nat × Bool)} {u : TypeId} {cs news cs2 : List T} {r k sz m1 m2 bs : Nat} {zs : List T} {e : TypeId} (h : wpOpsT P ops n pu' rest K (TL.upd fr d (.ref k [] 0 (m1 + m2))) S2)
    (hw : wantedT ops fr ⟨some d, .call ⟨.builtin .append, #[x, y], #[t, u]⟩, ty, pos, aft, gd⟩ = some true := by rfl)
    (hx : TL.ev fr x = .ref r [] 0 m1 := by (first | (simp only [go_sem, ↓reduceIte, Nat.reduceEqDiff, Nat.reduceMul, Nat.reduceAdd, Nat.reduceSub, Nat.reduceLT, Nat.reduceGT, Nat.reduceLeDiff, Nat.reduceBEq, Int.reduceLT, Int.reduceLE, Int.reduceNe, Int.reduceEq, Int.reduceToNat, Int.reduceAdd, Int.reduceSub, Int.reduceMul, Int.reduceNeg, Nat.reducePow, Int.reducePow, Nat.reduceSubDiff, decide_true, decide_false, reduceCtorEq, or_self, or_false, false_or, or_true, true_or, if_false, gt_iff_lt, ge_iff_le, ne_eq, not_true_eq_false, not_false_eq_true, and_self, beq_self_eq_true, Bool.false_eq_true] <;> with_reducible rfl) | with_reducible rfl)) (hat : S.at false r [] = some (sz, cs) := by (first | (simp only [go_sem, ↓reduceIte, Nat.reduceEqDiff, Nat.reduceMul, Nat.reduceAdd, Nat.reduceSub, Nat.reduceLT, Nat.reduceGT, Nat.reduceLeDiff, Nat.reduceBEq, Int.reduceLT, Int.reduceLE, Int.reduceNe, Int.reduceEq, Int.reduceToNat, Int.reduceAdd, Int.reduceSub, Int.reduceMul, Int.reduceNeg, Nat.reducePow, Int.reducePow, Nat.reduceSubDiff, decide_true, decide_false, reduceCtorEq, or_self, or_false, false_or, or_true, true_or, if_false, gt_iff_lt, ge_iff_le, ne_eq, not_true_eq_false, not_false_eq_true, and_self, beq_self_eq_true, Bool.false_eq_true] <;> with_reducible rfl) | with_reducible rfl)) (hy : srcT S sz (TL.ev fr y) = some (m2, news) := by (simp only [srcT, go_sem, ↓reduceIte, Nat.reduceEqDiff, Nat.reduceMul, Nat.reduceAdd, Nat.reduceSub, Nat.reduceLT, Nat.reduceGT, Nat.reduceLeDiff, Nat.reduceBEq, Int.reduceLT, Int.reduceLE, Int.reduceNe, Int.reduceEq, Int.reduceToNat, Int.reduceAdd, Int.reduceSub, Int.reduceMul, Int.reduceNeg, Nat.reducePow, Int.reducePow, Nat.reduceSubDiff, decide_true, decide_false, reduceCtorEq, or_self, or_false, false_or, or_true, true_or, if_false, gt_iff_lt, ge_iff_le, ne_eq, not_true_eq_false, not_false_eq_true, and_self, beq_self_eq_true, Bool.false_eq_true] <;> with_reducible rfl))
    (h1 : elemT P t = some e := by (first | (simp only [go_sem, ↓reduceIte, Nat.reduceEqDiff, Nat.reduceMul, Nat.reduceAdd, Nat.reduceSub, Nat.reduceLT, Nat.reduceGT, Nat.reduceLeDiff, Nat.reduceBEq, Int.reduceLT, Int.reduceLE, Int.reduceNe, Int.reduceEq, Int.reduceToNat, Int.reduceAdd, Int.reduceSub, Int.reduceMul, Int.reduceNeg, Nat.reducePow, Int.reducePow, Nat.reduceSubDiff, decide_true, decide_false, reduceCtorEq, or_self, or_false, false_or, or_true, true_or, if_false, gt_iff_lt, ge_iff_le, ne_eq, not_true_eq_false, not_false_eq_true, and_self, beq_self_eq_true, Bool.false_eq_true] <;> with_reducible rfl) | with_reducible rfl)) (h2 : szT P e = some sz := by (first | (simp only [go_sem, ↓reduceIte, Nat.reduceEqDiff, Nat.reduceMul, Nat.reduceAdd, Nat.reduceSub, Nat.reduceLT, Nat.reduceGT, Nat.reduceLeDiff, Nat.reduceBEq, Int.reduceLT, Int.reduceLE, Int.reduceNe, Int.reduceEq, Int.reduceToNat, Int.reduceAdd, Int.reduceSub, Int.reduceMul, Int.reduceNeg, Nat.reducePow, Int.reducePow, Nat.reduceSubDiff, decide_true, decide_false, reduceCtorEq, or_self, or_false, false_or, or_true, true_or, if_false, gt_iff_lt, ge_iff_le, ne_eq, not_true_eq_false, not_false_eq_true, and_self, beq_self_eq_true, Bool.false_eq_true] <;> with_reducible rfl) | with_reducible rfl)) (h3 : bytesT P e = some bs := by (first | (simp only [go_sem, ↓reduceIte, Nat.reduceEqDiff, Nat.reduceMul, Nat.reduceAdd, Nat.reduceSub, Nat.reduceLT, Nat.reduceGT, Nat.reduceLeDiff, Nat.reduceBEq, Int.reduceLT, Int.reduceLE, Int.reduceNe, Int.reduceEq, Int.reduceToNat, Int.reduceAdd, Int.reduceSub, Int.reduceMul, Int.reduceNeg, Nat.reducePow, Int.reducePow, Nat.reduceSubDiff, decide_true, decide_false, reduceCtorEq, or_self, or_false, false_or, or_true, true_or, if_false, gt_iff_lt, ge_iff_le, ne_eq, not_true_eq_false, not_false_eq_true, and_self, beq_self_eq_true, Bool.false_eq_true] <;> with_reducible rfl) | with_reducible rfl)) (h4 : zeroT P e = some zs := by (first | (simp only [go_sem, ↓reduceIte, Nat.reduceEqDiff, Nat.reduceMul, Nat.reduceAdd, Nat.reduceSub, Nat.reduceLT, Nat.reduceGT, Nat.reduceLeDiff, Nat.reduceBEq, Int.reduceLT, Int.reduceLE, Int.reduceNe, Int.reduceEq, Int.reduceToNat, Int.reduceAdd, Int.reduceSub, Int.reduceMul, Int.reduceNeg, Nat.reducePow, Int.reducePow, Nat.reduceSubDiff, decide_true, decide_false, reduceCtorEq, or_self, or_false, false_or, or_true, true_or, if_false, gt_iff_lt, ge_iff_le, ne_eq, not_true_eq_false, not_false_eq_true, and_self, beq_self_eq_true, Bool.false_eq_true] <;> with_reducible rfl) | with_reducible rfl)) (h5 : notInt P u = true := by (first | (simp only [go_sem, ↓reduceIte, Nat.reduceEqDiff, Nat.reduceMul, Nat.reduceAdd, Nat.reduceSub, Nat.reduceLT, Nat.reduceGT, Nat.reduceLeDiff, Nat.reduceBEq, Int.reduceLT, Int.reduceLE, Int.reduceNe, Int.reduceEq, Int.reduceToNat, Int.reduceAdd, Int.reduceSub, Int.reduceMul, Int.reduceNeg, Nat.reducePow, Int.reducePow, Nat.reduceSubDiff, decide_true, decide_false, reduceCtorEq, or_self, or_false, false_or, or_true, true_or, if_false, gt_iff_lt, ge_iff_le, ne_eq, not_true_eq_false, not_false_eq_true, and_self, beq_self_eq_true, Bool.false_eq_true] <;> with_reducible rfl) | with_reducible rfl))
    (h6 : (Nat.ble bs 1000 && (zs.length == sz) && Nat.blt 0 sz) = true := by rfl) (hk : S.length = k := by (first | (simp only [go_sem, ↓reduceIte, Nat.reduceEqDiff, Nat.reduceMul, Nat.reduceAdd, Nat.reduceSub, Nat.reduceLT, Nat.reduceGT, Nat.reduceLeDiff, Nat.reduceBEq, Int.reduceLT, Int.reduceLE, Int.reduceNe, Int.reduceEq, Int.reduceToNat, Int.reduceAdd, Int.reduceSub, Int.reduceMul, Int.reduceNeg, Nat.reducePow, Int.reducePow, Nat.reduceSubDiff, decide_true, decide_false, reduceCtorEq, or_self, or_false, false_or, or_true, true_or, if_false, gt_iff_lt, ge_iff_le, ne_eq, not_true_eq_false, not_false_eq_true, and_self, beq_self_eq_true, Bool.false_eq_true] <;> with_reducible rfl) | with_reducible rfl))
    (hcs : cs.length = m1 * sz := by first | (simp only [cat1_len, lit2_len, List.length_replicate, List.length_append, List.length_cons, List.length_nil, List.length_take, List.length_drop, List.length_map, List.length_set, len_rowO, len_row]; done) | (simp only [cat1_len, lit2_len, List.length_replicate, List.length_append, List.length_cons, List.length_nil, List.length_take, List.length_drop, List.length_map, List.length_set, len_rowO, len_row]; omega)) (hc2 : cs ++ news = cs2 := by with_reducible rfl) (hS : S.kill r ++ [⟨sz, true, cs2⟩] = S2 := by (first | (simp only [go_sem, ↓reduceIte, Nat.reduceEqDiff, Nat.reduceMul, Nat.reduceAdd, Nat.reduceSub, Nat.reduceLT, Nat.reduceGT, Nat.reduceLeDiff, Nat.reduceBEq, Int.reduceLT, Int.reduceLE, Int.reduceNe, Int.reduceEq, Int.reduceToNat, Int.reduceAdd, Int.reduceSub, Int.reduceMul, Int.reduceNeg, Nat.reducePow, Int.reducePow, Nat.reduceSubDiff, decide_true, decide_false, reduceCtorEq, or_self, or_false, false_or, or_true, true_or, if_false, gt_iff_lt, ge_iff_le, ne_eq, not_true_eq_false, not_false_eq_true, and_self, beq_self_eq_true, Bool.false_eq_true] <;> with_reducible rfl) | with_reducible rfl)) (hd : Nat.blt d n = true := by rfl) (hb : m1 + m2 ≤ 100000000 := by first | omega | (simp only [cat1_len, lit2_len, List.length_replicate, List.length_append, List.length_cons, List.length_nil, List.length_take, List.length_drop, List.length_map, List.length_set]; omega))
    (hp : Dr.step P ops n pu fr S ⟨some d, .call ⟨.builtin .append, #[x, y], #[t, u]⟩, ty, pos, aft, gd⟩ (.ref k [] 0 (m1 + m2)) S2 pu' := by first | exact Dr.step.txt | exact dr_chain) :
    wpOpsT P ops n pu (⟨some d, .call ⟨.builtin .append, #[x, y], #[t, u]⟩, ty, pos, aft, gd⟩ :: rest) K fr S := by
  simp only [Bool.and_eq_true, beq_iff_eq, Nat.blt_eq] at h6
  have hbs := Nat.le_of_ble_eq_true h6.1.1
  have hm : (m1 + m2) * bs ≤ 100000000 * 1000 := Nat.mul_le_mul hb hbs
  refine r_op (opT_do hw (by simpa [okDst, Nat.blt_eq] using hd) rfl ?_) hp h
  show appendX P S t u (TL.ev fr x) (TL.ev fr y) = _
  rw [hx, appX_r]
  simp only [appendT, h1, h2, h3, h4, h5, hy, hat]
  rw [if_pos ⟨trivial, h6.2, h6.1.2⟩]
  rw [if_pos ⟨trivial, by omega, by omega, by omega⟩, ← hcs, List.take_length, hc2, hS, hk]
/-- An append to nil, cell by cell. -/
theorem r_apz {pu pu' : Dr} {gd : Option (Nat × Bool)} {u : TypeId} {news : List T} {k sz m2 bs : Nat} {zs : List T} {e : TypeId} (h : wpOpsT P ops n pu' rest K (TL.upd fr d (.ref k [] 0 m2)) S2)
    (hw : wantedT ops fr ⟨some d, .call ⟨.builtin .append, #[x, y], #[t, u]⟩, ty, pos, aft, gd⟩ = some true := by rfl)
    (hx : TL.ev fr x = .v (.slice none 0 0) := by (first | (simp only [go_sem, ↓reduceIte, Nat.reduceEqDiff, Nat.reduceMul, Nat.reduceAdd, Nat.reduceSub, Nat.reduceLT, Nat.reduceGT, Nat.reduceLeDiff, Nat.reduceBEq, Int.reduceLT, Int.reduceLE, Int.reduceNe, Int.reduceEq, Int.reduceToNat, Int.reduceAdd, Int.reduceSub, Int.reduceMul, Int.reduceNeg, Nat.reducePow, Int.reducePow, Nat.reduceSubDiff, decide_true, decide_false, reduceCtorEq, or_self, or_false, false_or, or_true, true_or, if_false, gt_iff_lt, ge_iff_le, ne_eq, not_true_eq_false, not_false_eq_true, and_self, beq_self_eq_true, Bool.false_eq_true] <;> with_reducible rfl) | with_reducible rfl))
    (h1 : elemT P t = some e := by (first | (simp only [go_sem, ↓reduceIte, Nat.reduceEqDiff, Nat.reduceMul, Nat.reduceAdd, Nat.reduceSub, Nat.reduceLT, Nat.reduceGT, Nat.reduceLeDiff, Nat.reduceBEq, Int.reduceLT, Int.reduceLE, Int.reduceNe, Int.reduceEq, Int.reduceToNat, Int.reduceAdd, Int.reduceSub, Int.reduceMul, Int.reduceNeg, Nat.reducePow, Int.reducePow, Nat.reduceSubDiff, decide_true, decide_false, reduceCtorEq, or_self, or_false, false_or, or_true, true_or, if_false, gt_iff_lt, ge_iff_le, ne_eq, not_true_eq_false, not_false_eq_true, and_self, beq_self_eq_true, Bool.false_eq_true] <;> with_reducible rfl) | with_reducible rfl)) (h2 : szT P e = some sz := by (first | (simp only [go_sem, ↓reduceIte, Nat.reduceEqDiff, Nat.reduceMul, Nat.reduceAdd, Nat.reduceSub, Nat.reduceLT, Nat.reduceGT, Nat.reduceLeDiff, Nat.reduceBEq, Int.reduceLT, Int.reduceLE, Int.reduceNe, Int.reduceEq, Int.reduceToNat, Int.reduceAdd, Int.reduceSub, Int.reduceMul, Int.reduceNeg, Nat.reducePow, Int.reducePow, Nat.reduceSubDiff, decide_true, decide_false, reduceCtorEq, or_self, or_false, false_or, or_true, true_or, if_false, gt_iff_lt, ge_iff_le, ne_eq, not_true_eq_false, not_false_eq_true, and_self, beq_self_eq_true, Bool.false_eq_true] <;> with_reducible rfl) | with_reducible rfl)) (hy : srcT S sz (TL.ev fr y) = some (m2, news) := by (simp only [srcT, go_sem, ↓reduceIte, Nat.reduceEqDiff, Nat.reduceMul, Nat.reduceAdd, Nat.reduceSub, Nat.reduceLT, Nat.reduceGT, Nat.reduceLeDiff, Nat.reduceBEq, Int.reduceLT, Int.reduceLE, Int.reduceNe, Int.reduceEq, Int.reduceToNat, Int.reduceAdd, Int.reduceSub, Int.reduceMul, Int.reduceNeg, Nat.reducePow, Int.reducePow, Nat.reduceSubDiff, decide_true, decide_false, reduceCtorEq, or_self, or_false, false_or, or_true, true_or, if_false, gt_iff_lt, ge_iff_le, ne_eq, not_true_eq_false, not_false_eq_true, and_self, beq_self_eq_true, Bool.false_eq_true] <;> with_reducible rfl)) (h3 : bytesT P e = some bs := by (first | (simp only [go_sem, ↓reduceIte, Nat.reduceEqDiff, Nat.reduceMul, Nat.reduceAdd, Nat.reduceSub, Nat.reduceLT, Nat.reduceGT, Nat.reduceLeDiff, Nat.reduceBEq, Int.reduceLT, Int.reduceLE, Int.reduceNe, Int.reduceEq, Int.reduceToNat, Int.reduceAdd, Int.reduceSub, Int.reduceMul, Int.reduceNeg, Nat.reducePow, Int.reducePow, Nat.reduceSubDiff, decide_true, decide_false, reduceCtorEq, or_self, or_false, false_or, or_true, true_or, if_false, gt_iff_lt, ge_iff_le, ne_eq, not_true_eq_false, not_false_eq_true, and_self, beq_self_eq_true, Bool.false_eq_true] <;> with_reducible rfl) | with_reducible rfl)) (h4 : zeroT P e = some zs := by (first | (simp only [go_sem, ↓reduceIte, Nat.reduceEqDiff, Nat.reduceMul, Nat.reduceAdd, Nat.reduceSub, Nat.reduceLT, Nat.reduceGT, Nat.reduceLeDiff, Nat.reduceBEq, Int.reduceLT, Int.reduceLE, Int.reduceNe, Int.reduceEq, Int.reduceToNat, Int.reduceAdd, Int.reduceSub, Int.reduceMul, Int.reduceNeg, Nat.reducePow, Int.reducePow, Nat.reduceSubDiff, decide_true, decide_false, reduceCtorEq, or_self, or_false, false_or, or_true, true_or, if_false, gt_iff_lt, ge_iff_le, ne_eq, not_true_eq_false, not_false_eq_true, and_self, beq_self_eq_true, Bool.false_eq_true] <;> with_reducible rfl) | with_reducible rfl)) (h5 : notInt P u = true := by (first | (simp only [go_sem, ↓reduceIte, Nat.reduceEqDiff, Nat.reduceMul, Nat.reduceAdd, Nat.reduceSub, Nat.reduceLT, Nat.reduceGT, Nat.reduceLeDiff, Nat.reduceBEq, Int.reduceLT, Int.reduceLE, Int.reduceNe, Int.reduceEq, Int.reduceToNat, Int.reduceAdd, Int.reduceSub, Int.reduceMul, Int.reduceNeg, Nat.reducePow, Int.reducePow, Nat.reduceSubDiff, decide_true, decide_false, reduceCtorEq, or_self, or_false, false_or, or_true, true_or, if_false, gt_iff_lt, ge_iff_le, ne_eq, not_true_eq_false, not_false_eq_true, and_self, beq_self_eq_true, Bool.false_eq_true] <;> with_reducible rfl) | with_reducible rfl))
    (h6 : (Nat.ble bs 1000 && (zs.length == sz) && Nat.blt 0 sz) = true := by rfl) (hk : S.length = k := by (first | (simp only [go_sem, ↓reduceIte, Nat.reduceEqDiff, Nat.reduceMul, Nat.reduceAdd, Nat.reduceSub, Nat.reduceLT, Nat.reduceGT, Nat.reduceLeDiff, Nat.reduceBEq, Int.reduceLT, Int.reduceLE, Int.reduceNe, Int.reduceEq, Int.reduceToNat, Int.reduceAdd, Int.reduceSub, Int.reduceMul, Int.reduceNeg, Nat.reducePow, Int.reducePow, Nat.reduceSubDiff, decide_true, decide_false, reduceCtorEq, or_self, or_false, false_or, or_true, true_or, if_false, gt_iff_lt, ge_iff_le, ne_eq, not_true_eq_false, not_false_eq_true, and_self, beq_self_eq_true, Bool.false_eq_true] <;> with_reducible rfl) | with_reducible rfl))
    (hS : S ++ [⟨sz, true, news⟩] = S2 := by (first | (simp only [go_sem, ↓reduceIte, Nat.reduceEqDiff, Nat.reduceMul, Nat.reduceAdd, Nat.reduceSub, Nat.reduceLT, Nat.reduceGT, Nat.reduceLeDiff, Nat.reduceBEq, Int.reduceLT, Int.reduceLE, Int.reduceNe, Int.reduceEq, Int.reduceToNat, Int.reduceAdd, Int.reduceSub, Int.reduceMul, Int.reduceNeg, Nat.reducePow, Int.reducePow, Nat.reduceSubDiff, decide_true, decide_false, reduceCtorEq, or_self, or_false, false_or, or_true, true_or, if_false, gt_iff_lt, ge_iff_le, ne_eq, not_true_eq_false, not_false_eq_true, and_self, beq_self_eq_true, Bool.false_eq_true] <;> with_reducible rfl) | with_reducible rfl)) (hd : Nat.blt d n = true := by rfl) (hb : 0 < m2 ∧ m2 ≤ 100000000 := by first | omega | (simp only [cat1_len, lit2_len, List.length_replicate, List.length_append, List.length_cons, List.length_nil, List.length_take, List.length_drop, List.length_map, List.length_set]; omega))
    (hp : Dr.step P ops n pu fr S ⟨some d, .call ⟨.builtin .append, #[x, y], #[t, u]⟩, ty, pos, aft, gd⟩ (.ref k [] 0 m2) S2 pu' := by first | exact Dr.step.txt | exact dr_chain) :
    wpOpsT P ops n pu (⟨some d, .call ⟨.builtin .append, #[x, y], #[t, u]⟩, ty, pos, aft, gd⟩ :: rest) K fr S := by
  simp only [Bool.and_eq_true, beq_iff_eq, Nat.blt_eq] at h6
  have hbs := Nat.le_of_ble_eq_true h6.1.1
  have hm : m2 * bs ≤ 100000000 * 1000 := Nat.mul_le_mul hb.2 hbs
  refine r_op (opT_do hw (by simpa [okDst, Nat.blt_eq] using hd) rfl ?_) hp h
  show appendX P S t u (TL.ev fr x) (TL.ev fr y) = _
  rw [hx, appX_v]
  simp only [appendT, h1, h2, h3, h4, h5, hy]
  rw [if_pos ⟨trivial, h6.2, h6.1.2⟩]
  simp only [if_neg (show ¬ m2 = 0 by omega)]
  rw [if_pos ⟨by omega, by omega⟩, hk, hS]
end

@[go_sem] theorem gcTs_app (keep : List Nat) (a b : List T) : gcTs keep (a ++ b) = gcTs keep a ++ gcTs keep b := by simp only [gcTs_map, List.map_append]
@[go_sem] theorem reTs_app (f : NMap) (a b : List T) : reTs f (a ++ b) = reTs f a ++ reTs f b := by simp only [reTs_map, List.map_append]
@[go_sem] theorem rens_app (g : Nat → Nat) (a b : List T) : rens g (a ++ b) = rens g a ++ rens g b := by simp only [rens_map, List.map_append]
@[go_sem] theorem fzTs_app (x : Root) (r : Nat) (a b : List T) : fzTs x r (a ++ b) = fzTs x r a ++ fzTs x r b := by simp only [fzTs_map, List.map_append]
@[go_sem] theorem sealTs_app (x : Root) (r : Nat) (a b : List T) : sealTs x r (a ++ b) = sealTs x r a ++ sealTs x r b := by simp only [sealTs_map, List.map_append]
@[go_sem] theorem zns_app (a b : List T) : zns (a ++ b) = zns a ++ zns b := zns_append a b
@[go_sem] theorem allTs_app (f : T → Bool) : ∀ a b : List T, allTs f (a ++ b) = (allTs f a && allTs f b)
  | [], b => by simp [allTs]
  | c :: a, b => by rw [List.cons_append, allTs, allTs_app f a b, allTs, Bool.and_assoc]
theorem EndT.norm {P : Program} {M : Nat} {fn : Func} {res : T} {S1 : Store} {fr : Nat → T} {S : Store} (h : EndT P M fn res S1 .ret fr S) : EndT P M fn res S1 .normal fr S := ⟨trivial, h.2⟩
end Go.TL
