/- What comes in: data that can be read, as trees. No conditions. -/
import Derived.Test.YtkecbkljfpebhaaTGo3
import Derived.Deep.Slices
import Derived.Carry
import Derived.SizedLaws
namespace Go.TL
set_option linter.unusedSimpArgs false
open Go.RowKit Go.ChangeShapes Go.WideShapes

def Small {H : Type} (P : Program) (t : TypeId) (d : DataW H) : Prop := (d.weights P t).all (· ≤ reachBytes) = true

/-- Cells that are as trees say. -/
def Lies (w : World) (ts : List T) (cs : List Value) (off : Nat) : Prop := ∀ (j : Nat) (c : T), ts[j]? = some c → FzR w (fun b => b < w.heap.size) c (cs.getD (off + j) undef)

/-- How a type's data open. -/
structure Opens {α : Type} (P : Program) (t : TypeId) (enc : α → List T) (wf : α → Prop) : Prop where
  o : ∀ {H : Type} (en : TypeId × Value → H) (w : World) (fuel : Nat) (cs : List Value) (d : DataW H) (ps : List MemPlace), DataW.trod en P w 0 (fun _ => true) true fuel t cs = some (d, ps) → Small P t d →
    ∃ a, wf a ∧ (enc a).length = cs.length ∧ Lies w (enc a) cs 0

theorem Opens.int {P : Program} {t : TypeId} {k : IntKind} (ht : P.underlying t = some (.int k)) : Opens P t (fun x : Int => [.v (.int k x)]) (fun x => (Lit.int k x).wf = true) := by
  refine ⟨fun en w fuel cs d ps h _ => ?_⟩
  obtain ⟨n, rfl, hx, hw⟩ := DataW.trod_int ht h
  refine ⟨n, hw, rfl, fun j c hj => ?_⟩
  cases j with
  | zero => simp at hj; subst hj; exact .v _ rfl
  | succ j => simp at hj

theorem Opens.bool {P : Program} {t : TypeId} (ht : P.underlying t = some .bool) : Opens P t (fun x : Bool => [.v (.bool (decide (x = true)))]) (fun _ => True) := by
  refine ⟨fun en w fuel cs d ps h _ => ?_⟩
  obtain ⟨n, rfl, hx⟩ := DataW.trod_bool ht h
  refine ⟨n, trivial, rfl, fun j c hj => ?_⟩
  cases j with
  | zero =>
    simp at hj; subst hj
    exact .v _ rfl
  | succ j => simp at hj

theorem Opens.str {P : Program} {t : TypeId} (ht : P.underlying t = some .string) : Opens P t (fun x : ByteArray => [.v (.string x)]) (fun x => x.size ≤ 140737488351232) := by
  refine ⟨fun en w fuel cs d ps h hs => ?_⟩
  obtain ⟨s, rfl, hx, _⟩ := DataW.trod_string ht h
  simp only [Prod.mk.injEq] at hx
  obtain ⟨rfl, _⟩ := hx
  refine ⟨s, ?_, rfl, fun j c hj => ?_⟩
  · have : s.data.toList.length ≤ reachBytes := by simpa [Small, DataW.weights] using hs
    have h2 : s.data.toList.length = s.size := by rw [Array.length_toList]; rfl
    have h3 : reachBytes = 140737488351232 := rfl
    omega
  · cases j with
    | zero => simp at hj; subst hj; exact .v _ rfl
    | succ j => simp at hj

theorem weightsAll_mem {H : Type} {P : Program} {e : TypeId} : ∀ {ds : List (DataW H)} {d : DataW H}, d ∈ ds → ∀ n ∈ d.weights P e, n ∈ DataW.weightsAll P e ds
  | [], d, h, _, _ => by simp at h
  | x :: ds, d, h, n, hn => by
    rw [DataW.weightsAll]
    rcases List.mem_cons.1 h with rfl | h
    · exact List.mem_append.2 (.inl hn)
    · exact List.mem_append.2 (.inr (weightsAll_mem h n hn))

theorem cell_lt {w : World} {a : Addr} {v : Value} (h : w.cell? a = some v) : a.block < w.heap.size ∧ a.spot = none := by
  unfold World.cell? at h
  split at h
  · rename_i c t m hb
    refine ⟨(Array.getElem?_eq_some_iff.1 hb).1, ?_⟩
    cases hs : a.spot with
    | none => rfl
    | some _ => simp [hs] at h
  · cases h

theorem Opens.sl {α : Type} {P : Program} {t e : TypeId} {sz bs : Nat} {enc : α → List T} {wf : α → Prop} (ht : P.underlying t = some (.slice e)) (hsz : szT P e = some sz) (hb : bytesT P e = some bs) (h0 : 0 < sz) (hl : ∀ x, (enc x).length = sz) (he : Opens P e enc wf) :
    Opens P t (fun l : List α => [.sl false 0 l.length sz (rowT enc l)]) (fun l => l.length * bs ≤ 140737488351232 ∧ ∀ x ∈ l, wf x) := by
  have hc : P.cellsOf e = sz := by
    unfold szT at hsz
    unfold Program.cellsOf
    rw [hsz]; rfl
  have hbb : P.bytesOf e = bs := by
    unfold bytesT at hb
    unfold Program.bytesOf
    rw [hb]; rfl
  refine ⟨fun en w fuel cs d ps h hs => ?_⟩
  rcases Go.Deep.open_slice ht h with ⟨rfl, hx⟩ | ⟨a, len, cap, m, n, D, Pl, rfl, _, hlc, _, hm, hx, hel⟩
  · refine ⟨[], ⟨by simp, fun x hx => by simp at hx⟩, rfl, fun j c hj => ?_⟩
    cases j with
    | zero => simp at hj; subst hj; exact nil_fz _ _ _ _ _
    | succ j => simp at hj
  · simp only [Prod.mk.injEq] at hx
    obtain ⟨rfl, rfl⟩ := hx
    simp only [if_true] at hm
    subst hm
    have hbig : len * bs ≤ 140737488351232 := by
      have : (((List.range len).map D).length + ((List.range (m - len)).map fun j => D (len + j)).length) * P.bytesOf e ≤ reachBytes := by
        have := List.all_eq_true.1 hs ((((List.range len).map D).length + ((List.range (m - len)).map fun j => D (len + j)).length) * P.bytesOf e) (by simp [DataW.weights, ht])
        simpa using this
      rw [hbb] at this
      simp only [List.length_map, List.length_range] at this
      have h2 : len * bs ≤ (len + (m - len)) * bs := Nat.mul_le_mul_right _ (by omega)
      have h3 : reachBytes = 140737488351232 := rfl
      omega
    have key : ∀ i, i < len → ∃ x : α, wf x ∧ ∃ cs', w.cells? 0 (a.add (i * sz)) sz = some cs' ∧ Lies w (enc x) cs' 0 := by
      intro i hi
      obtain ⟨cs', h1, h2⟩ := hel i (by omega)
      rw [hc] at h1
      obtain ⟨x, hx1, hx2, hx3⟩ := he.o en w n cs' (D i) (Pl i) h2 (by
        refine List.all_eq_true.2 fun k hk => ?_
        refine List.all_eq_true.1 hs k ?_
        have : D i ∈ (List.range len).map D := List.mem_map.2 ⟨i, by simpa using hi, rfl⟩
        have := weightsAll_mem (P := P) (e := e) this k hk
        simp only [DataW.weights, ht]
        exact List.mem_cons_of_mem _ (List.mem_append.2 (.inl this)))
      exact ⟨x, hx1, cs', h1, hx3⟩
    obtain ⟨l, hll, hlw⟩ : ∃ l : List α, l.length = len ∧ ∀ i x, l[i]? = some x → wf x ∧ ∃ cs', w.cells? 0 (a.add (i * sz)) sz = some cs' ∧ Lies w (enc x) cs' 0 := by
      clear hel hs hbig h hlc
      induction len with
      | zero => exact ⟨[], rfl, fun i x h => by simp at h⟩
      | succ len ih =>
        obtain ⟨l, h1, h2⟩ := ih (fun i hi => key i (by omega))
        obtain ⟨x, hx⟩ := key len (by omega)
        refine ⟨l ++ [x], by simp [h1], fun i y hy => ?_⟩
        rcases Nat.lt_or_ge i l.length with hlt | hge
        · rw [List.getElem?_append_left hlt] at hy
          exact h2 i y hy
        · rw [List.getElem?_append_right hge] at hy
          have : i - l.length = 0 := by
            rcases Nat.eq_zero_or_pos (i - l.length) with h | h
            · exact h
            · rw [List.getElem?_eq_none (by simp; omega)] at hy; cases hy
          rw [this] at hy
          simp at hy
          subst hy
          rw [show i = len by omega]
          exact hx
    refine ⟨l, ⟨by rw [hll]; exact hbig, fun x hx => ?_⟩, rfl, fun j c hj => ?_⟩
    · obtain ⟨i, hi, hxi⟩ := List.mem_iff_getElem.1 hx
      exact (hlw i x (by rw [List.getElem?_eq_getElem hi, hxi])).1
    · cases j with
      | succ j => simp at hj
      | zero =>
        simp only [List.getElem?_cons_zero, Option.some.injEq] at hj
        subst hj
        have hlen : (rowT enc l).length = l.length * sz := rowT_len hl l
        rcases Nat.eq_zero_or_pos l.length with hz | hpos
        · have hnil : l = [] := List.eq_nil_of_length_eq_zero hz
          subst hnil
          have : len = 0 := hll.symm
          subst this
          exact .sl 0 0 (fun _ => undef) (by simp [rowT]) (Nat.zero_le _) (.inl rfl) (fun j c h => by simp [rowT] at h) (fun j c h => by simp [rowT] at h)
        · have hcell : ∀ i, i < l.length * sz → ∃ v, w.cell? (a.add i) = some v := by
            intro i hi
            have hq : i / sz < l.length := (Nat.div_lt_iff_lt_mul h0).2 hi
            obtain ⟨_, cs', h1, _⟩ := hlw (i / sz) l[i / sz] (List.getElem?_eq_getElem hq)
            obtain ⟨_, h2, h3⟩ := World.cells?_some h1
            have hr : i % sz < sz := Nat.mod_lt _ h0
            have := h3 (i % sz) hr
            have e1 : (a.add (i / sz * sz)).add (i % sz) = a.add i := by
              rw [Go.Deep.add_add, Nat.div_add_mod']
            rw [e1] at this
            exact ⟨_, by rw [this, List.getElem?_eq_getElem (by omega)]⟩
          have hspot : a.spot = none ∧ a.block < w.heap.size := by
            obtain ⟨v, hv⟩ := hcell 0 (Nat.mul_pos hpos h0)
            have := cell_lt hv
            exact ⟨this.2, this.1⟩
          obtain ⟨ab, ao, asp⟩ := a
          simp only at hspot
          obtain ⟨rfl, hblk⟩ := hspot
          show FzR w (fun b => b < w.heap.size) _ (Value.slice (some ⟨ab, ao, none⟩) len m)
          rw [← hll]
          refine FzR.sl (ok := fun b => b < w.heap.size) ab ao (fun i => (w.cell? ⟨ab, ao + i, none⟩).getD undef) (by rw [hlen]) (by rw [hll]; exact hlc) (.inr ⟨rfl, by exact hblk⟩) (fun i c hi => ?_) (fun i c hi => ?_)
          · have hlt := (List.getElem?_eq_some_iff.1 hi).1
            rw [hlen] at hlt
            obtain ⟨v, hv⟩ := hcell i hlt
            have hv' : w.cell? ⟨ab, ao + i, none⟩ = some v := by rw [← addr_add]; exact hv
            rw [hv']; rfl
          · have hlt := (List.getElem?_eq_some_iff.1 hi).1
            rw [hlen] at hlt
            have hq : i / sz < l.length := (Nat.div_lt_iff_lt_mul h0).2 hlt
            obtain ⟨_, cs', h1, h4⟩ := hlw (i / sz) l[i / sz] (List.getElem?_eq_getElem hq)
            obtain ⟨_, h2, h3⟩ := World.cells?_some h1
            have hr : i % sz < sz := Nat.mod_lt _ h0
            have h5 := h3 (i % sz) hr
            have e1 : ((⟨ab, ao, none⟩ : Addr).add (i / sz * sz)).add (i % sz) = ⟨ab, ao + i, none⟩ := by
              rw [Go.Deep.add_add, Nat.div_add_mod', addr_add]
            rw [e1] at h5
            have hcc : (enc l[i / sz])[i % sz]? = some c := by
              have hg : ∀ (l : List α) (q r : Nat) (x : α), l[q]? = some x → r < sz → (rowT enc l)[q * sz + r]? = (enc x)[r]? := by
                intro l
                induction l with
                | nil => intro q r x h; simp at h
                | cons y l ih =>
                  intro q r x hx hr
                  cases q with
                  | zero =>
                    simp at hx; subst hx
                    rw [rowT_cons, Nat.zero_mul, Nat.zero_add, List.getElem?_append_left (by rw [hl]; exact hr)]
                  | succ q =>
                    rw [rowT_cons, List.getElem?_append_right (by rw [hl, Nat.succ_mul]; omega), hl, Nat.succ_mul, show q * sz + sz + r - sz = q * sz + r by omega]
                    exact ih q r x (by simpa using hx) hr
              have := hg l (i / sz) (i % sz) _ (List.getElem?_eq_getElem hq) hr
              rw [Nat.div_add_mod'] at this
              rw [← this]
              exact hi
            have h6 := h4 (i % sz) c hcc
            rw [Nat.zero_add] at h6
            have e2 : (w.cell? ⟨ab, ao + i, none⟩).getD undef = cs'.getD (i % sz) undef := by
              rw [h5, List.getD_eq_getElem?_getD]
            show FzR w _ c ((w.cell? ⟨ab, ao + i, none⟩).getD undef)
            rw [e2]
            exact h6

theorem Opens.map {α β : Type} {P : Program} {t : TypeId} {enc : α → List T} {wf : α → Prop} {enc2 : β → List T} {wf2 : β → Prop} (f : α → β) (he : ∀ a, enc2 (f a) = enc a) (hw : ∀ a, wf a → wf2 (f a)) (h : Opens P t enc wf) : Opens P t enc2 wf2 := by
  refine ⟨fun en w fuel cs d ps hh hs => ?_⟩
  obtain ⟨a, h1, h2, h3⟩ := h.o en w fuel cs d ps hh hs
  exact ⟨f a, hw a h1, by rw [he]; exact h2, by rw [he]; exact h3⟩

/-- A struct's fields: types and places. -/
def stOf (P : Program) (t : TypeId) : Option (List (TypeId × Nat)) :=
  match P.underlying t with
  | some (.struct fs) => some (fs.toList.map fun f => (f.type, f.offset))
  | _ => none

structure OpensF {α : Type} (P : Program) (fs : List (TypeId × Nat)) (off : Nat) (tot : Nat) (enc : α → List T) (wf : α → Prop) : Prop where
  o : ∀ {H : Type} (en : TypeId × Value → H) (w : World) (n : Nat) (cs : List Value), cs.length = tot → (∀ (i : Nat) (f : TypeId × Nat), fs[i]? = some f → ∃ y, DataW.trod en P w 0 (fun _ => true) true n f.1 ((cs.drop f.2).take (P.cellsOf f.1)) = some y ∧ Small P f.1 y.1) →
    ∃ a, wf a ∧ (enc a).length = tot - off ∧ Lies w (enc a) cs off

theorem OpensF.nil {P : Program} {tot : Nat} : OpensF P [] tot tot (fun _ : Unit => []) (fun _ => True) :=
  ⟨fun en w n cs _ _ => ⟨(), trivial, by simp, fun j c h => by simp at h⟩⟩

theorem OpensF.cons {α β : Type} {P : Program} {t : TypeId} {off n tot : Nat} {fs : List (TypeId × Nat)} {enc : α → List T} {wf : α → Prop} {encs : β → List T} {wfs : β → Prop} (hn : szT P t = some n) (h : Opens P t enc wf) (hs : OpensF P fs (off + n) tot encs wfs) (hle : off + n ≤ tot) :
    OpensF P ((t, off) :: fs) off tot (fun x : α × β => enc x.1 ++ encs x.2) (fun x => wf x.1 ∧ wfs x.2) := by
  have hc : P.cellsOf t = n := by
    unfold szT at hn
    unfold Program.cellsOf
    rw [hn]; rfl
  refine ⟨fun en w m cs hcs hf => ?_⟩
  obtain ⟨⟨d, ps⟩, h1, h2⟩ := hf 0 (t, off) rfl
  obtain ⟨a, a1, a2, a3⟩ := h.o en w m _ d ps h1 h2
  obtain ⟨b, b1, b2, b3⟩ := hs.o en w m cs hcs fun i f hi => hf (i + 1) f (by simpa using hi)
  rw [hc] at a2 a3
  have hlen : (enc a).length = n := by rw [a2, List.length_take, List.length_drop]; dsimp only; omega
  dsimp only at *
  refine ⟨(a, b), ⟨a1, b1⟩, by rw [List.length_append, hlen, b2]; omega, fun j c hj => ?_⟩
  have hj : (enc a ++ encs b)[j]? = some c := hj
  rcases Nat.lt_or_ge j n with hlt | hge
  · rw [List.getElem?_append_left (by omega)] at hj
    have := a3 j c hj
    rw [Nat.zero_add, List.getD_eq_getElem?_getD, List.getElem?_take, if_pos hlt, List.getElem?_drop] at this
    rw [List.getD_eq_getElem?_getD]
    exact this
  · rw [List.getElem?_append_right (by omega), hlen] at hj
    have := b3 (j - n) c hj
    rw [show off + n + (j - n) = off + j by omega] at this
    exact this

theorem Opens.st {α : Type} {P : Program} {t : TypeId} {tot : Nat} {fs : List (TypeId × Nat)} {enc : α → List T} {wf : α → Prop} (ht : stOf P t = some fs) (hn : szT P t = some tot) (h : OpensF P fs 0 tot enc wf) : Opens P t enc wf := by
  unfold stOf at ht
  split at ht
  case h_2 => cases ht
  rename_i fa hu
  cases ht
  have hc : P.cellsOf t = tot := by
    unfold szT at hn
    unfold Program.cellsOf
    rw [hn]; rfl
  refine ⟨fun en w fuel cs d ps hh hs => ?_⟩
  obtain ⟨xs, n, rfl, hx, hl, hxl, hf⟩ := DataW.trod_struct hu hh
  simp only [Prod.mk.injEq] at hx
  obtain ⟨rfl, rfl⟩ := hx
  rw [hc] at hl
  obtain ⟨a, a1, a2, a3⟩ := h.o en w n cs hl fun i f hi => by
    rw [List.getElem?_map] at hi
    obtain ⟨g, hg, rfl⟩ := Option.map_eq_some_iff.1 hi
    rw [Array.getElem?_toList] at hg
    have h1 := hf i g hg
    have hlt : i < xs.length := by rw [hxl]; exact (Array.getElem?_eq_some_iff.1 hg).1
    rw [List.getElem?_eq_getElem hlt] at h1
    refine ⟨xs[i], h1, List.all_eq_true.2 fun k hk => List.all_eq_true.1 hs k ?_⟩
    simp only [DataW.weights, hu]
    refine DataW.weights_mem_each (j := i) (t := g.type) (d := xs[i].1) ?_ ?_ k hk
    · rw [List.getElem?_map, Array.getElem?_toList, hg]; rfl
    · rw [List.getElem?_map, List.getElem?_eq_getElem hlt]; rfl
  exact ⟨a, a1, by rw [a2, hl, Nat.sub_zero], a3⟩

/-! ### The arguments as a whole -/
/-- A type's outer form: a struct's tree is an aggregate, all else is one cell. -/
def outT (P : Program) (t : TypeId) (cs : List T) : Option T :=
  match aggT P t with
  | some true => some (.agg cs)
  | some false => match cs with
    | [c] => some c
    | _ => none
  | none => none

theorem fz_start {w : World} {K : Nat → Nat → Prop} (hK : ∀ k b, K k b) {k : Nat} {t : T} {v : Value} (h : FzR w (fun b => b < w.heap.size) t v) : FzR (Env.start w K).w ((Env.start w K).okz k) t v :=
  h.evo fun _ hb => ⟨⟨hb, fun ⟨_, _, _, hx, _⟩ => start_at hx, fun _ => hK _ _⟩, rfl⟩

theorem tr_start {w : World} {K : Nat → Nat → Prop} (hK : ∀ k b, K k b) {t : T} {v : Value} (h : FzR w (fun b => b < w.heap.size) t v) (hf : flatC t = true) : TR (Env.start w K) t v := by
  have h2 := fz_start (K := K) hK (k := 0) h
  cases h2 with
  | v x _ => exact .v _
  | sl b off f hn hc ha hcell hrec =>
    rename_i o k n e cs A cap
    cases o with
    | true => cases hf
    | false =>
      have : k = 0 := by simpa [flatC] using hf
      subst this
      exact .sl (.sl b off f hn hc ha hcell hrec)

theorem open_arg {α : Type} {H : Type} {P : Program} {t : TypeId} {enc : α → List T} {wf : α → Prop} (ho : Opens P t enc wf) {en : TypeId × Value → H} {w : World} {v : Value} {d : DataW H} {ps : List MemPlace} (h : DataW.Trod en P w 0 (fun _ => true) true t v d ps) (hs : Small P t d)
    {b0 : Nat} (hval : Value.okWide P w .any b0 t v) (hfl : ∀ a, (enc a).all flatC = true) (hag : ∃ b, aggT P t = some b) (hone : aggT P t = some false → ∀ a, (enc a).length = 1) : ∃ a t', wf a ∧ outT P t (enc a) = some t' ∧ TR (Env.start w fun _ _ => True) t' v := by
  obtain ⟨fuel, hf⟩ := h
  obtain ⟨a, h1, h2, h3⟩ := ho.o en w fuel _ d ps hf hs
  obtain ⟨b, hb⟩ := hag
  have hcell : ∀ j c, (enc a)[j]? = some c → TR (Env.start w fun _ _ => True) c (v.cells.toList.getD j undef) := by
    intro j c hj
    have := h3 j c hj
    rw [Nat.zero_add] at this
    exact tr_start (fun _ _ => trivial) this (List.all_eq_true.1 (hfl a) c (List.mem_of_getElem? hj))
  unfold Value.okWide at hval
  unfold aggT at hb
  cases b with
  | true =>
    have hv : ∃ cs, v = .agg cs := by
      split at hb
      · rename_i hu; rw [hu] at hval; obtain ⟨cs, h, _⟩ := hval; exact ⟨cs, h⟩
      · rename_i hu; rw [hu] at hval; obtain ⟨cs, h, _⟩ := hval; exact ⟨cs, h⟩
      · cases hb
      · cases hb
    obtain ⟨cs, rfl⟩ := hv
    refine ⟨a, .agg (enc a), h1, by unfold outT aggT; rw [hb], .agg ?_ fun i t hi => ?_⟩
    · simpa [Value.cells] using h2.symm
    · have := hcell i t hi
      simp only [Value.cells] at this
      rw [Array.getD_eq_getD_getElem?]
      rw [List.getD_eq_getElem?_getD, Array.getElem?_toList] at this
      exact this
  | false =>
    have hl := hone (by unfold aggT; exact hb) a
    obtain ⟨c, hc⟩ : ∃ c, enc a = [c] := by
      match h : enc a, hl with
      | [c], _ => exact ⟨c, rfl⟩
    refine ⟨a, c, h1, by unfold outT aggT; rw [hb, hc], ?_⟩
    have := hcell 0 c (by rw [hc]; rfl)
    have hv : v.cells.toList.getD 0 undef = v := by
      rw [hl] at h2
      cases v with
      | agg cs =>
        exfalso
        split at hb
        · cases hb
        · cases hb
        · rename_i d hu1 hu2 hu
          rw [hu] at hval
          cases d
          case struct fs => exact hu1 fs rfl
          case array n e => exact hu2 n e rfl
          all_goals (simp [Cell.okWide, Cell.ok, hu] at hval)
        · cases hb
      | _ => rfl
    rw [hv] at this
    exact this

theorem small_of {H : Type} {P : Program} {ts : List TypeId} {ds : List (DataW H)} (h : (DataW.weightsEach P ts ds).all (· ≤ reachBytes) = true) (j : Nat) {t : TypeId} {d : DataW H} (ht : ts[j]? = some t) (hd : ds[j]? = some d) : Small P t d :=
  List.all_eq_true.2 fun n hn => List.all_eq_true.1 h n (DataW.weights_mem_each ht hd n hn)

theorem wf_i64 {x : Int} (h : (Lit.int .i64 x).wf = true) : -9223372036854775808 ≤ x ∧ x ≤ 9223372036854775807 := by
  simp [Lit.wf, IntKind.min, IntKind.max, IntKind.bits, IntKind.signed] at h
  omega

theorem CallsT.lift {P : Program} {g : FuncId} {args : List T} {r : Value} {S1 : Store} (h : CallsT P [] g args (.v r) S1) (W : World) (vals : Array Value) (hG : Gl W W.heap.size) (hl : vals.size = args.length) (ht : ∀ (i : Nat) (t : T), args[i]? = some t → TR (Env.start W fun _ _ => True) t (vals.getD i undef)) :
    Calls P g vals W fun e w' => e = .returned r ∧ Below W.heap.size W w' := by
  refine (h.run (Env.start W fun _ _ => True) W vals rfl (start_inv _ _ hG) hl ht).mono fun e w' hh => ?_
  obtain ⟨v, E', rfl, rfl, _, hI, hE, hT⟩ := hh
  have := hI.below
  rw [hE.B] at this
  cases hT
  exact ⟨rfl, this⟩

theorem trodAll_below {H : Type} {en : TypeId × Value → H} {P : Program} (hl : laidOutB P = true) {W W' : World} (hb : Below W.heap.size W W') : ∀ (ts : List TypeId) (vs : List Value) (ds : List (DataW H)) (p : List MemPlace), (ts.all fun t => P.readableRec t && decide (t < P.types.size)) = true →
    DataW.TrodAll en P W 0 (fun _ => true) true ts vs ds p → (∀ x ∈ p, x.block < W.heap.size) → DataW.TrodAll en P W' 0 (fun b => decide (b < W.heap.size)) true ts vs ds p
  | [], [], [], p, _, h, _ => h
  | t :: ts, v :: vs, d :: ds, p, hr, h, hp => by
    simp only [List.all_cons, Bool.and_eq_true, decide_eq_true_eq] at hr
    obtain ⟨p1, q1, h1, h2, rfl⟩ := h
    exact ⟨p1, q1, Below.trod hl hr.1.1 hr.1.2 h1 hb (fun x hx => hp x (by simp [hx])), trodAll_below hl hb ts vs ds q1 hr.2 h2 (fun x hx => hp x (by simp [hx])), rfl⟩
  | [], [], _ :: _, _, _, h, _ => by cases h
  | [], _ :: _, _, _, _, h, _ => by cases h
  | _ :: _, [], _, _, _, h, _ => by cases h
  | _ :: _, _ :: _, [], _, _, h, _ => by cases h

end Go.TL

