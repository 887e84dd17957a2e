/- Cuts and conversions on trees, function values. No conditions. -/
import Derived.Test.YtdnclbghhdflmaaTRest
import Derived.Laws.BytesArg
import Derived.Lib.ConvBytes
namespace Go.TL
open Go.RowKit

theorem FzR.v_eq {w : World} {ok : Nat → Prop} {x y : Value} (h : FzR w ok (.v x) y) : y = x := by cases h; rfl

def intT : T → Option Int
  | .v (.int _ i) => some i
  | _ => none

/-- The bounds of a cut: from, to. -/
def boundsT (n : Nat) (lo hi : Option T) : Option (Nat × Nat) :=
  match (match hi with | some t => intT t | none => some (n : Int)), (match lo with | some t => intT t | none => some 0) with
  | some h, some l => if 0 ≤ l ∧ l ≤ h ∧ h ≤ n then some (l.toNat, h.toNat) else none
  | _, _ => none

def sliceT (P : Program) (S : Store) (t : TypeId) (x : T) (lo hi : Option T) : Option T :=
  match x with
  | .v (.string s) => match P.underlying t with
    | some .string => (boundsT s.size lo hi).map fun b => .v (.string (s.extract b.1 b.2))
    | _ => none
  | .v (.slice none 0 0) => match elemT P t with
    | some e => match szT P e with
      | some _ => (boundsT 0 lo hi).map fun _ => .v (.slice none 0 0)
      | none => none
    | none => none
  | .sl false k n e' cs => match elemT P t with
    | some e => match szT P e with
      | some sz => if e' = sz then (boundsT n lo hi).map fun b => .sl false k (b.2 - b.1) e' ((cs.drop (b.1 * e')).take ((b.2 - b.1) * e')) else none
      | none => none
    | none => none
  | .ref r p off n => match elemT P t with
    | some e => match szT P e, S.at false r p with
      | some sz, some (e', _) => if e' = sz then (boundsT n lo hi).map fun b => if b.1 = 0 then .ref r p off b.2 else if b.1 < b.2 then .ref r p (off + b.1 * e') (b.2 - b.1) else .sl false 0 0 e' [] else none
      | _, _ => none
    | none => none
  | _ => none

theorem intT_ev {E : Env} {n : Nat} {fr : Nat → T} {a : Act} (hf : FR E n fr a) {x : Operand} {i : Int} (h : intT (ev fr x) = some i) : ∃ k, a.eval x = .int k i := by
  unfold intT at h
  split at h
  · rename_i k j hj; cases h; exact ⟨k, (hf.ev x).toV _ _ (.int k i) (by rw [hj]; rfl)⟩
  · cases h

theorem bounds_run {P : Program} {E : Env} {n : Nat} {fr : Nat → T} {a : Act} (hf : FR E n fr a) {m cap : Nat} (hmc : m ≤ cap) {lo hi : Option Operand} {b : Nat × Nat} (h : boundsT m (lo.map (ev fr)) (hi.map (ev fr)) = some b) (isSlice : Bool) (w : World) :
    (Instr.sliceBounds isSlice m cap (lo.map a.eval) (hi.map a.eval) none).run P w = .ok (b.1, b.2, cap) w ∧ b.1 ≤ b.2 ∧ b.2 ≤ m := by
  unfold boundsT at h
  split at h
  case h_2 => cases h
  rename_i h1 l1 hh hl
  split at h
  case isFalse => cases h
  rename_i hb
  cases h
  refine ⟨?_, by show l1.toNat ≤ h1.toNat; omega, by show h1.toNat ≤ m; omega⟩
  unfold Instr.sliceBounds
  cases hi with
  | none =>
    simp only [Option.map_none, Option.some.injEq] at hh
    subst hh
    cases lo with
    | none =>
      simp only [Option.map_none, Option.some.injEq] at hl
      subst hl
      simp
    | some x =>
      obtain ⟨k, hk⟩ := intT_ev hf (x := x) hl
      have hb' : 0 ≤ l1 ∧ l1 ≤ (m : Int) := by omega
      simp [hk, Instr.sliceBound, asIntOf, hb']
  | some y =>
    obtain ⟨k, hk⟩ := intT_ev hf (x := y) hh
    have hb2 : 0 ≤ h1 ∧ h1 ≤ (cap : Int) := by omega
    cases lo with
    | none =>
      simp only [Option.map_none, Option.some.injEq] at hl
      subst hl
      simp [hk, Instr.sliceBound, asIntOf, hb2]
    | some x =>
      obtain ⟨k', hk'⟩ := intT_ev hf (x := x) hl
      have hb3 : 0 ≤ l1 ∧ l1 ≤ (h1.toNat : Int) := by omega
      have hb4 : 0 ≤ l1 ∧ l1 ≤ h1 := by omega
      simp [hk, hk', Instr.sliceBound, asIntOf, hb2, hb4]
      omega

theorem run_sliceAt {P : Program} {t e : TypeId} {sz : Nat} (he : elemT P t = some e) (hs : szT P e = some sz) (A : Option Addr) (n cap : Nat) (lo hi : Option Value) (l h m : Nat) (w : World)
    (hb : (Instr.sliceBounds true n cap lo hi none).run P w = .ok (l, h, m) w) :
    (Instr.sliceAt t (.slice A n cap) lo hi none).run P w = .ok (.slice (if m = l then A else A.map (·.add (l * sz))) (h - l) (m - l)) w := by
  have hu := elemT_run he
  simp [Instr.sliceAt, Instr.slice, run_underlying hu, hb, szT_run hs]

theorem FzR.cut {w : World} {ok : Nat → Prop} {o : Bool} {k n e : Nat} {cs : List T} {A : Option Addr} {cap : Nat} (h : FzR w ok (.sl o k n e cs) (.slice A n cap)) {l hh : Nat} (h1 : l ≤ hh) (h2 : hh ≤ n) :
    FzR w ok (.sl o k (hh - l) e ((cs.drop (l * e)).take ((hh - l) * e))) (.slice (if cap = l then A else A.map (·.add (l * e))) (hh - l) (cap - l)) := by
  cases h with
  | sl b off f hn hc ha hcell hrec =>
    have hle : l * e + (hh - l) * e ≤ n * e := by rw [← Nat.add_mul]; exact Nat.mul_le_mul_right _ (by omega)
    have hlen : ((cs.drop (l * e)).take ((hh - l) * e)).length = (hh - l) * e := by simp; omega
    refine .sl b (off + l * e) (fun j => f (l * e + j)) hlen (by omega) ?_ ?_ ?_
    · by_cases h0 : ((cs.drop (l * e)).take ((hh - l) * e)) = []
      · exact .inl h0
      · refine .inr ?_
        have hpos : 0 < (hh - l) * e := by rw [← hlen]; exact List.length_pos_iff.2 h0
        have hlt : l < hh := by
          rcases Nat.lt_or_ge l hh with h | h
          · exact h
          · rw [Nat.sub_eq_zero_of_le h] at hpos; simp at hpos
        rcases ha with ha | ⟨rfl, hok⟩
        · subst ha; simp at h0
        · rw [if_neg (by omega)]
          exact ⟨by simp [addr_add], hok⟩
    · intro j c hj
      have hjl : j < (hh - l) * e := by rw [← hlen]; exact (List.getElem?_eq_some_iff.1 hj).1
      rw [List.getElem?_take_of_lt hjl, List.getElem?_drop] at hj
      rw [Nat.add_assoc]
      exact hcell _ _ hj
    · intro j c hj
      have hjl : j < (hh - l) * e := by rw [← hlen]; exact (List.getElem?_eq_some_iff.1 hj).1
      rw [List.getElem?_take_of_lt hjl, List.getElem?_drop] at hj
      exact hrec _ _ hj

theorem slice_gives {P : Program} {o : Oper} {t : TypeId} {xo : Operand} {lo hi : Option Operand} (ho : o.op = .slice t xo lo hi none) {a : Act} {E : Env} {w0 : World} {n : Nat} {fr : Nat → T}
    (h : Inv E w0) (hf : FR E n fr a) {r : T} (hr : sliceT P E.S t (ev fr xo) (lo.map (ev fr)) (hi.map (ev fr)) = some r) : Gives P o a E w0 r E.S := by
  unfold sliceT at hr
  split at hr
  · rename_i s hs
    have hxv := (hf.ev xo).toV _ _ (.string s) (by rw [hs]; rfl)
    split at hr
    case h_2 => cases hr
    rename_i hu
    obtain ⟨b, hb, rfl⟩ := Option.map_eq_some_iff.1 hr
    obtain ⟨h1, _, _⟩ := bounds_run (P := P) hf (Nat.le_refl _) hb false E.w
    refine Gives.pure h (v := .string (s.extract b.1 b.2)) ?_ (.v _)
    simp only [execOp, ho, hxv, Sem.run_bind, Instr.sliceAt, run_underlying hu, Result.andThen_ok, Instr.slice, Option.map_none]
    simp [h1]
  · rename_i hs
    have hxv := (hf.ev xo).toV _ _ (.slice none 0 0) (by rw [hs]; rfl)
    split at hr
    case h_2 => cases hr
    rename_i e he
    split at hr
    case h_2 => cases hr
    rename_i sz hsz
    obtain ⟨b, hb, rfl⟩ := Option.map_eq_some_iff.1 hr
    obtain ⟨h1, h2, h3⟩ := bounds_run (P := P) hf (Nat.le_refl _) hb true E.w
    have e1 : b.1 = 0 := by omega
    have e2 : b.2 = 0 := by omega
    refine Gives.pure h (v := .slice none 0 0) ?_ (.v _)
    simp only [execOp, ho, hxv, Sem.run_bind, Option.map_none, run_sliceAt he hsz none 0 0 _ _ _ _ _ _ h1, Result.andThen_ok, Sem.run_pure, e1, e2]
    rfl
  · rename_i k m e' cs hs
    split at hr
    case h_2 => cases hr
    rename_i e he
    split at hr
    case h_2 => cases hr
    rename_i sz hsz
    split at hr
    case isFalse => cases hr
    rename_i hee
    subst hee
    obtain ⟨b, hb, rfl⟩ := Option.map_eq_some_iff.1 hr
    have hx := hf.ev xo
    rw [hs] at hx
    generalize hval : a.eval xo = val at hx
    cases hx with
    | sl hfz =>
      have hfz' := hfz
      cases hfz with
      | sl b1 off f hn hc ha hcell hrec =>
        rename_i A cap
        obtain ⟨h1, h2, h3⟩ := bounds_run (P := P) hf hc hb true E.w
        refine Gives.pure h (v := .slice (if cap = b.1 then A else A.map (·.add (b.1 * e'))) (b.2 - b.1) (cap - b.1)) ?_ (.sl (hfz'.cut h2 h3))
        simp only [execOp, ho, hval, Sem.run_bind, Option.map_none, run_sliceAt he hsz A m cap _ _ _ _ _ _ h1, Result.andThen_ok, Sem.run_pure]
  · rename_i r' p' off' m hs
    split at hr
    case h_2 => cases hr
    rename_i e he
    split at hr
    case h_2 => cases hr
    rename_i sz e' cs' hsz hat
    split at hr
    case isFalse => cases hr
    rename_i hee
    subst hee
    obtain ⟨b, hb, rfl⟩ := Option.map_eq_some_iff.1 hr
    have hx := hf.ev xo
    rw [hs] at hx
    generalize hval : a.eval xo = val at hx
    cases hx with
    | ref hr hh =>
      obtain ⟨cap, arr, ty, mk, g1, g2, g3, rfl⟩ := hh _ _ hat
      obtain ⟨h1, h2, h3⟩ := bounds_run (P := P) hf g2 hb true E.w
      have hrun := run_sliceAt (P := P) he hsz (some ⟨E.φ r' p', off', none⟩) m cap _ _ _ _ _ _ h1
      have hex : (execOp a.eval o).run P E.w = .ok (.value (.slice (if cap = b.1 then some ⟨E.φ r' p', off', none⟩ else (some ⟨E.φ r' p', off', none⟩ : Option Addr).map (·.add (b.1 * e'))) (b.2 - b.1) (cap - b.1))) E.w := by
        simp only [execOp, ho, hval, Sem.run_bind, Option.map_none, hrun, Result.andThen_ok, Sem.run_pure]
      refine Gives.pure h hex ?_
      by_cases hb0 : b.1 = 0
      · rw [if_pos hb0]
        refine .ref hr fun e1 cs1 hat1 => ?_
        rw [hat] at hat1
        cases hat1
        refine ⟨cap, arr, ty, mk, g1, by omega, g3, ?_⟩
        rw [hb0]
        split <;> simp [addr_add]
      · rw [if_neg hb0]
        by_cases hlt : b.1 < b.2
        · rw [if_pos hlt]
          refine .ref hr fun e1 cs1 hat1 => ?_
          rw [hat] at hat1
          cases hat1
          refine ⟨cap - b.1, arr, ty, mk, g1, by omega, ?_, ?_⟩
          · rw [Nat.add_assoc, ← Nat.add_mul, show b.1 + (cap - b.1) = cap by omega]; exact g3
          · rw [if_neg (by omega)]; simp [addr_add]
        · rw [if_neg hlt]
          have : b.2 - b.1 = 0 := by omega
          rw [this]
          exact .sl (.sl 0 0 (fun _ => undef) (by simp) (by omega) (.inl rfl) (fun j c hj => by simp at hj) (fun j c hj => by simp at hj))
  · cases hr

/-! ### conversions -/
def numsT : List T → Option (List Int)
  | [] => some []
  | .v (.int .u8 n) :: ts => (numsT ts).map (n :: ·)
  | _ => none

theorem numsT_map : ∀ (ts : List T) (ns : List Int), numsT ts = some ns → ts = ns.map fun n => .v (.int .u8 n)
  | [], ns, h => by simp only [numsT, Option.some.injEq] at h; subst h; rfl
  | t :: ts, ns, h => by
    unfold numsT at h
    split at h
    · rename_i hh; cases hh
    · rename_i n ts' hh
      cases hh
      obtain ⟨l, hl, rfl⟩ := Option.map_eq_some_iff.1 h
      rw [numsT_map ts l hl]; rfl
    · cases h

/-- The text of a row of bytes. -/
def strOfT (ns : List Int) : ByteArray := ⟨(ns.map fun n => UInt8.ofNat n.toNat).toArray⟩

def byteSlice (P : Program) (t : TypeId) : Bool :=
  match elemT P t with
  | some e => match P.underlying e with
    | some (.int .u8) => true
    | _ => false
  | none => false

theorem byteSlice_run {P : Program} {t : TypeId} (h : byteSlice P t = true) : ∃ e, P.underlying t = some (.slice e) ∧ P.underlying e = some (.int .u8) := by
  unfold byteSlice at h
  split at h
  case h_2 => cases h
  rename_i e he
  split at h
  case h_2 => cases h
  rename_i hu
  exact ⟨e, elemT_run he, hu⟩

def convT (P : Program) (S : Store) (src dst : TypeId) (x : T) : Option (T × Store) :=
  match x with
  | .v (.int _ n) => match P.underlying src, P.underlying dst with
    | some _, some (.int k) => some (.v (.int k (k.wrap n)), S)
    | _, _ => none
  | .v (.string s) => match P.underlying src, P.underlying dst with
    | some _, some .string => some (.v (.string s), S)
    | some _, some (.slice e) => match P.underlying e with
      | some (.int .u8) => some (.ref S.length [] 0 s.size, S ++ [⟨1, true, s.data.toList.map fun b => .v (.int .u8 b.toNat)⟩])
      | _ => none
    | _, _ => none
  | .v (.slice none _ _) => if byteSlice P src = true then match P.underlying dst with
    | some .string => some (.v (.string ByteArray.empty), S)
    | _ => none else none
  | .sl false _ n 1 cs => if byteSlice P src = true then match P.underlying dst, numsT cs with
    | some .string, some ns => if 0 < n then some (.v (.string (strOfT ns)), S) else some (.v (.string ByteArray.empty), S)
    | _, _ => none else none
  | .ref r p off n => if byteSlice P src = true then match P.underlying dst, S.at false r p with
    | some .string, some (_, cs) => match numsT ((cs.drop off).take n) with
      | some ns => if ns.length = n then some (.v (.string (strOfT ns)), S) else none
      | none => none
    | _, _ => none else none
  | _ => none

theorem strOfNums_eq (ns : List Int) : strOfNums ns = strOfT ns := rfl

theorem conv_gives {P : Program} {o : Oper} {src dst : TypeId} {xo : Operand} (ho : o.op = .convert src dst xo) {a : Act} {E : Env} {w0 : World} {n : Nat} {fr : Nat → T}
    (h : Inv E w0) (hf : FR E n fr a) {r : T} {S' : Store} (hr : convT P E.S src dst (ev fr xo) = some (r, S')) : Gives P o a E w0 r S' := by
  have fin : ∀ (v : Value), (convert src dst (a.eval xo)).run P E.w = .ok v E.w → TR E r v → S' = E.S → Gives P o a E w0 r S' := by
    intro v hv ht hS
    subst hS
    refine Gives.pure h (v := v) ?_ ht
    simp only [execOp, ho, Sem.run_bind, hv, Result.andThen_ok, Sem.run_pure]
  unfold convT at hr
  split at hr
  · rename_i k m hs
    have hxv := (hf.ev xo).toV _ _ (.int k m) (by rw [hs]; rfl)
    split at hr
    case h_2 => cases hr
    rename_i u k' hu hd
    cases hr
    refine fin _ ?_ (.v _) rfl
    rw [hxv]
    simp [convert, run_underlying hu, run_underlying hd, Conv.intToInt]
  · rename_i s hs
    have hxv := (hf.ev xo).toV _ _ (.string s) (by rw [hs]; rfl)
    split at hr
    · rename_i u hu hd
      cases hr
      refine fin _ ?_ (.v _) rfl
      rw [hxv]
      simp [convert, run_underlying hu, run_underlying hd]
    · rename_i u e hu hd
      split at hr
      case h_2 => cases hr
      rename_i he
      cases hr
      have hrun := Lib.run_convert_string_bytes (P := P) E.w src dst e s hu hd he
      have hsz := Lib.bytesWorld_size E.w e s
      have hm : Made E.w (Lib.bytesWorld E.w e s) (Lib.bytesCells E.w e s) e ((Lib.bytesCells E.w e s).size, (Lib.bytesCells E.w e s).size + 1) :=
        ⟨rfl, rfl, rfl, hsz, fun b hb => Lib.bytesWorld_at_old _ _ _ _ hb, Lib.bytesWorld_at_new _ _ _⟩
      have hcap : s.size ≤ grownCap E.w s.size 0 e := grownCap_ge E.w s.size 0 e
      have hcs : (Lib.bytesCells E.w e s).size = grownCap E.w s.size 0 e := by
        have : s.data.size = s.size := rfl
        simp [Lib.bytesCells]; omega
      refine Inv.new h hm (fun o ho hh => by have := hh.1; omega) 1 _ ?_ ?_ ?_ (v := .slice (some ⟨E.w.heap.size, 0, none⟩) s.size (grownCap E.w s.size 0 e)) ?_ (ref_new E hm 1 _ _ _ hcap (by omega))
      · refine List.all_eq_true.2 fun c hc => ?_
        obtain ⟨b, _, rfl⟩ := List.mem_map.1 hc
        rfl
      · simp [Lib.bytesCells]
      · intro j c hj
        rw [List.getElem?_map] at hj
        obtain ⟨b, hb, rfl⟩ := Option.map_eq_some_iff.1 hj
        have hlt : j < s.data.size := by rw [Array.getElem?_toList] at hb; exact (Array.getElem?_eq_some_iff.1 hb).1
        have : (Lib.bytesCells E.w e s).getD j undef = .int .u8 b.toNat := by
          rw [Array.getD_eq_getD_getElem?, Lib.bytesCells, Array.getElem?_append_left (by simpa using hlt), Array.getElem?_map]
          rw [Array.getElem?_toList] at hb
          rw [hb]; rfl
        rw [this]
        exact ⟨.v _, rfl⟩
      · simp only [execOp, ho, hxv, Sem.run_bind, hrun, Result.andThen_ok, Sem.run_pure]
    · cases hr
  · rename_i m c hs
    have hxv := (hf.ev xo).toV _ _ (.slice none m c) (by rw [hs]; rfl)
    split at hr
    case isFalse => cases hr
    rename_i hbs
    obtain ⟨e, he1, he2⟩ := byteSlice_run hbs
    split at hr
    case h_2 => cases hr
    rename_i hd
    cases hr
    refine fin _ ?_ (.v _) rfl
    rw [hxv]
    exact run_convert_bytes_nil E.w src e he1 he2 m c dst hd
  · rename_i k m cs hs
    split at hr
    case isFalse => cases hr
    rename_i hbs
    obtain ⟨e, he1, he2⟩ := byteSlice_run hbs
    split at hr
    case h_2 => cases hr
    rename_i ns hd hns
    have hmap := numsT_map cs ns hns
    have hx := hf.ev xo
    rw [hs] at hx
    generalize hval : a.eval xo = val at hx
    cases hx with
    | sl hfz =>
      cases hfz with
      | sl b off f hn hc ha hcell hrec =>
        rename_i A cap
        have hnl : ns.length = m := by rw [hmap] at hn; simpa using hn
        split at hr
        · rename_i hpos
          cases hr
          rcases ha with ha | ⟨rfl, hok⟩
          · subst ha; simp at hn; omega
          · refine fin _ ?_ (.v _) rfl
            rw [hval, ← strOfNums_eq]
            refine run_convert_bytes_arg E.w src e he1 he2 b off m cap ns hnl (fun i hi => ?_) dst hd
            have hci : cs[i]? = some (.v (.int .u8 (ns.getD i 0))) := by
              rw [hmap, List.getElem?_map, List.getElem?_eq_getElem (by omega), List.getD_eq_getElem?_getD, List.getElem?_eq_getElem (by omega)]; rfl
            rw [hcell i _ hci]
            rw [(hrec i _ hci).v_eq]
        · rename_i hpos
          cases hr
          have hm0 : m = 0 := by omega
          subst hm0
          refine fin _ ?_ (.v _) rfl
          rw [hval, run_convert_bytes_string E.w src dst e _ _ _ he1 he2 hd]
          cases A with
          | none => simp [Conv.bytesToString]
          | some ad =>
            have := run_bytesToString (P := P) E.w ad 0 cap [] (by simp [loadCells, loadCellsFrom])
            simpa using this
  · rename_i r' p' off' m hs
    split at hr
    case isFalse => cases hr
    rename_i hbs
    obtain ⟨e, he1, he2⟩ := byteSlice_run hbs
    split at hr
    case h_2 => cases hr
    rename_i e1 cs hd hat
    split at hr
    case h_2 => cases hr
    rename_i ns hns
    split at hr
    case isFalse => cases hr
    rename_i hnl
    cases hr
    have hmap := numsT_map _ ns hns
    have hx := hf.ev xo
    rw [hs] at hx
    generalize hval : a.eval xo = val at hx
    cases hx with
    | ref hr hh =>
      obtain ⟨cap, arr, ty, mk, g1, g2, g3, rfl⟩ := hh _ _ hat
      obtain ⟨arr2, ty2, mk2, k1, k2, k3, k4, k5⟩ := h.blk r' p' e1 cs (Store.at_any hat)
      rw [g1] at k1
      cases k1
      refine fin _ ?_ (.v _) rfl
      rw [hval, ← strOfNums_eq]
      refine run_convert_bytes_arg E.w src e he1 he2 _ _ m cap ns hnl (fun i hi => ?_) dst hd
      have hci : cs[off' + i]? = some (.v (.int .u8 (ns.getD i 0))) := by
        have e3 : ((cs.drop off').take m)[i]? = some (.v (.int .u8 (ns.getD i 0))) := by
          rw [hmap, List.getElem?_map, List.getElem?_eq_getElem (by omega), List.getD_eq_getElem?_getD, List.getElem?_eq_getElem (by omega)]; rfl
        rw [List.getElem?_take_of_lt hi, List.getElem?_drop] at e3
        exact e3
      have hlt := (List.getElem?_eq_some_iff.1 hci).1
      have hcr := k5 _ _ hci
      rw [cell_of_row _ _ _ _ _ _ g1, Array.getElem?_eq_getElem (by omega)]
      rw [Array.getD_eq_getD_getElem?, Array.getElem?_eq_getElem (by omega)] at hcr
      generalize hu : arr[off' + i] = u at hcr ⊢
      simp only [Option.getD_some] at hcr
      cases hcr
      rfl
  · cases hr

/-! ### function values -/
theorem makeFunc_gives {P : Program} {o : Oper} {f : FuncId} {caps : Array Operand} (ho : o.op = .makeFunc (.func f) #[] caps) {a : Act} {E : Env} {w0 : World} {n : Nat} {fr : Nat → T}
    (h : Inv E w0) (hf : FR E n fr a) : Gives P o a E w0 (.clo f (caps.toList.map (ev fr))) E.S := by
  refine Gives.pure h (v := .func (.func f) #[] (caps.map a.eval)) ?_ (.clo (by simp) fun i t ht => ?_)
  · simp only [execOp, ho, Sem.run_bind, Instr.makeFunc, Sem.run_pure, Result.andThen_ok, Array.map_empty]
  · rw [List.getElem?_map] at ht
    obtain ⟨x, hx, rfl⟩ := Option.map_eq_some_iff.1 ht
    rw [Array.getElem?_toList] at hx
    rw [Array.getD_eq_getD_getElem?, Array.getElem?_map, hx]
    exact hf.ev x

end Go.TL
