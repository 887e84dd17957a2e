/- Any order that a region may take comes to what the text's order comes to. No conditions. -/
import Derived.Test.YtdnclbghhdflmaaTDraw
import Derived.Orders
namespace Go.TL
open Go.RowKit

theorem st_const {st : Nat → Store} {ch : Nat → Bool} {n : Nat} (h : ∀ i, i < n → ch i = false → st (i + 1) = st i) : ∀ (k a : Nat), a + k ≤ n → (∀ j, a ≤ j → j < a + k → ch j = false) → st (a + k) = st a
  | 0, a, _, _ => rfl
  | k + 1, a, hn, hc => by
    rw [← Nat.add_assoc, h (a + k) (by omega) (hc _ (by omega) (by omega))]
    exact st_const h k a (by omega) fun j h1 h2 => hc j h1 (by omega)

theorem st_next (ch : Nat → Bool) : ∀ (k a : Nat), ∃ p, a ≤ p ∧ p ≤ a + k ∧ (∀ j, a ≤ j → j < p → ch j = false) ∧ (p < a + k → ch p = true)
  | 0, a => ⟨a, by omega, by omega, fun j h1 h2 => by omega, fun h => by omega⟩
  | k + 1, a => by
    cases hc : ch a with
    | true => exact ⟨a, by omega, by omega, fun j h1 h2 => by omega, fun _ => hc⟩
    | false =>
      obtain ⟨p, h1, h2, h3, h4⟩ := st_next ch k (a + 1)
      refine ⟨p, by omega, by omega, fun j h5 h6 => ?_, fun h => h4 (by omega)⟩
      by_cases e : j = a
      · rw [e]; exact hc
      · exact h3 j (by omega) h6

theorem st_last (ch : Nat → Bool) : ∀ (k a : Nat), (∀ j, a ≤ j → j < a + k → ch j = false) ∨ ∃ q, a ≤ q ∧ q < a + k ∧ ch q = true ∧ ∀ j, q < j → j < a + k → ch j = false
  | 0, a => .inl fun j h1 h2 => by omega
  | k + 1, a => by
    cases hc : ch (a + k) with
    | true => exact .inr ⟨a + k, by omega, by omega, hc, fun j h1 h2 => by omega⟩
    | false =>
      rcases st_last ch k a with h | ⟨q, h1, h2, h3, h4⟩
      · left
        intro j h1 h2
        by_cases e : j = a + k
        · rw [e]; exact hc
        · exact h j h1 (by omega)
      · right
        refine ⟨q, h1, by omega, h3, fun j h5 h6 => ?_⟩
        by_cases e : j = a + k
        · rw [e]; exact hc
        · exact h4 j h5 (by omega)

theorem draw_any {P : Program} {ops : Array Oper} {n : Nat} {w0 : World} {Q : Ex → (Nat → T) → Store → Prop} {st : Nat → Store} {ch : Nat → Bool} {vals : List T} {fr : Nat → T} {E0 : Env} {d : List Deferred} (hok : DrawOk ops) (hvl : vals.length = ops.toList.length)
    (hop : ∀ (i : Nat) (o : Oper), ops.toList[i]? = some o → ∃ v, vals[i]? = some v ∧ opT P ops n (frN ops.toList vals fr i) (st i) o v (st (i + 1)))
    (hstill : ∀ (i : Nat) (o : Oper), ops.toList[i]? = some o → ch i = false → st (i + 1) = st i)
    (hchain : ∀ (i j : Nat) (o : Oper), ops.toList[i]? = some o → j < i → ch i = true → ch j = true → bitT ops i j = true)
    (hpast : ∀ (i j : Nat) (o : Oper) (v : T), ops.toList[i]? = some o → vals[i]? = some v → j < i → ch i = false → ch j = true → bitT ops i j = true ∨ opT P ops n (frN ops.toList vals fr i) (st j) o v (st j))
    (hpend : ∀ (i j : Nat) (o : Oper) (v : T), ops.toList[i]? = some o → vals[i]? = some v → i < j → j < ops.toList.length → ch i = false → ch j = true → bitT ops j i = true ∨ opT P ops n (frN ops.toList vals fr i) (st (j + 1)) o v (st (j + 1)))
    (hQ : Q .normal (frN ops.toList vals fr ops.toList.length) (st ops.toList.length)) :
    ∀ (fuel : Nat) (listed : Array Bool) (E : Env) (a : Act), listed.size = ops.size → ((List.range ops.size).filter fun i => !listed.getD i true).length ≤ fuel →
      (∀ (i : Nat) (o : Oper), ops[i]? = some o → listed.getD i false = true → ∀ e ∈ o.after, Region.binds .any e = true → listed.getD e.on false = true) →
      (∃ p, p ≤ ops.size ∧ E.S = st p ∧ (∀ j, j < p → ch j = true → listed.getD j false = true) ∧ (p < ops.size → ch p = true ∧ listed.getD p false = false)) → Evo E0 E → Inv E w0 → FR E n (frD ops vals fr listed) a → a.defers = d → wpAny P .any ops (Post E0 w0 n d Q) fuel listed a E.w := by
  intro fuel
  have hgd : ∀ (listed : Array Bool) (i : Nat), i < listed.size → listed.getD i true = listed.getD i false := by
    intro listed i hi
    simp [Array.getD_eq_getD_getElem?, Array.getElem?_eq_getElem hi]
  have hall : ∀ (listed : Array Bool), listed.size = ops.size → Region.ready .any ops listed = [] → ∀ i, i < ops.size → listed.getD i false = true := by
    intro listed hsz hr i
    induction i using Nat.strongRecOn with
    | _ i ih =>
      intro hi
      by_cases hl : listed.getD i false = true
      · exact hl
      · have hmem : i ∈ Region.ready .any ops listed := by
          unfold Region.ready
          refine List.mem_filter.2 ⟨List.mem_range.2 hi, ?_⟩
          have ho : ops[i]? = some ops[i] := Array.getElem?_eq_getElem hi
          rw [hgd listed i (by omega), ho]
          simp only [Bool.and_eq_true, Bool.not_eq_true', Option.map_some, Option.getD_some, Array.all_eq_true_iff_forall_mem]
          refine ⟨by simpa using hl, fun e he => ?_⟩
          cases hb : Region.binds .any e with
          | false => rfl
          | true =>
            have hlt := hok.down i _ ho e he hb
            simpa using ih e.on hlt (by omega)
        rw [hr] at hmem
        simp at hmem
  have fin : ∀ (listed : Array Bool) (E : Env) (a : Act), listed.size = ops.size → Region.ready .any ops listed = [] → (∃ p, p ≤ ops.size ∧ E.S = st p ∧ (∀ j, j < p → ch j = true → listed.getD j false = true) ∧ (p < ops.size → ch p = true ∧ listed.getD p false = false)) → Evo E0 E → Inv E w0 → FR E n (frD ops vals fr listed) a → a.defers = d → Post E0 w0 n d Q .normal a E.w := by
    intro listed E a hsz hr hS hev hI hF hd
    have hl := hall listed hsz hr
    have hfr : frD ops vals fr listed = frN ops.toList vals fr ops.toList.length := by
      funext t
      by_cases hx : ∃ k, dstAt ops.toList k = some t
      · obtain ⟨k, hk⟩ := hx
        have hlt : k < ops.size := by
          unfold dstAt at hk
          obtain ⟨o, ho, _⟩ := Option.bind_eq_some_iff.1 hk
          simpa using (List.getElem?_eq_some_iff.1 ho).1
        have hkv : k < vals.length := by rw [hvl]; simpa using hlt
        rw [frD_in hok hk (hl k hlt), frN_in ops.toList vals fr _ k t vals[k] hvl (by simpa using hlt) hk (List.getElem?_eq_getElem hkv) (fun k' hk' hd' => hk' (hok.uniq k k' t hk hd'))]
        simp [List.getD_eq_getElem?_getD, List.getElem?_eq_getElem hkv]
      · rw [frD_out fun k hk => absurd ⟨k, hk⟩ hx, frN_out _ _ _ _ _ fun k _ hk => hx ⟨k, hk⟩]
    rw [hfr] at hF
    have hSn : E.S = st ops.toList.length := by
      obtain ⟨p, h1, h2, _, h4⟩ := hS
      rw [h2]
      congr 1
      rcases Nat.lt_or_ge p ops.size with hlt | hge
      · have := (h4 hlt).2
        rw [hl p hlt] at this
        cases this
      · simp; omega
    exact ⟨.normal, _, E, rfl, by rw [hSn]; exact hQ, rfl, hI, hev, hF, hd⟩
  induction fuel with
  | zero =>
    intro listed E a hsz hc hcl hS hev hI hF hd
    have hnil : Region.ready .any ops listed = [] := by
      unfold Region.ready
      refine List.filter_eq_nil_iff.2 fun i hi hh => ?_
      have h0 : ((List.range ops.size).filter fun i => !listed.getD i true) = [] := List.eq_nil_of_length_eq_zero (by omega)
      have := List.filter_eq_nil_iff.1 h0 i hi
      simp only [Bool.and_eq_true] at hh
      exact this hh.1
    exact ⟨hnil, fin listed E a hsz hnil hS hev hI hF hd⟩
  | succ fuel ih =>
    intro listed E a hsz hc hcl hS hev hI hF hd
    refine ⟨fun hnil => fin listed E a hsz hnil hS hev hI hF hd, fun i hi => ?_⟩
    unfold Region.ready at hi
    obtain ⟨hir, hi⟩ := List.mem_filter.1 hi
    have hilt := List.mem_range.1 hir
    have ho : ops[i]? = some ops[i] := Array.getElem?_eq_getElem hilt
    simp only [Bool.and_eq_true, ho, Option.map_some, Option.getD_some, Array.all_eq_true_iff_forall_mem] at hi
    obtain ⟨hun, haft⟩ := hi
    have hunl : listed.getD i false = false := by
      rw [← hgd listed i (by omega)]; simpa using hun
    have haft' : ∀ e ∈ ops[i].after, Region.binds .any e = true → listed.getD e.on false = true := by
      intro e he hb
      have := haft e he
      rw [hb] at this
      simpa using this
    have hol : ops.toList[i]? = some ops[i] := by rw [Array.getElem?_toList]; exact ho
    obtain ⟨v, hv, hopi⟩ := hop i ops[i] hol
    have hclosed : ∀ i j, listed.getD i false = true → bitT ops i j = true → listed.getD j false = true := bit_closed (ls := fun i => listed.getD i false = true) hcl
    have hahead : ∀ j, bitT ops i j = true → listed.getD j false = true := by
      intro j hb
      obtain ⟨o1, ho1, e, he, hbi, h⟩ := bit_edge hb
      rw [ho] at ho1
      cases ho1
      have := haft' e he hbi
      rcases h with rfl | ⟨_, h2⟩
      · exact this
      · exact hclosed _ j this h2
    have hstc : ∀ i, i < ops.size → ch i = false → st (i + 1) = st i := fun k hk hc => hstill k ops[k] (by rw [Array.getElem?_toList]; exact Array.getElem?_eq_getElem hk) hc
    -- the operation at the roots that are there
    obtain ⟨p, hp1, hp2, hp3, hp4⟩ := hS
    obtain ⟨S', hopS, hS'⟩ : ∃ S', opT P ops n (frN ops.toList vals fr i) E.S ops[i] v S' ∧ ∀ E' : Env, E'.S = S' → ∃ p, p ≤ ops.size ∧ E'.S = st p ∧ (∀ j, j < p → ch j = true → (listed.setIfInBounds i true).getD j false = true) ∧ (p < ops.size → ch p = true ∧ (listed.setIfInBounds i true).getD p false = false) := by
      have hget : ∀ k, (listed.setIfInBounds i true).getD k false = if k = i then true else listed.getD k false := by
        intro k
        rw [Array.getD_eq_getD_getElem?, Array.getElem?_setIfInBounds]
        by_cases hk : i = k
        · subst hk; simp [hsz, hilt]
        · rw [if_neg hk, if_neg (Ne.symm hk), Array.getD_eq_getD_getElem?]
      cases hci : ch i with
      | true =>
        have hpi : p = i := by
          rcases Nat.lt_trichotomy p i with h | h | h
          · have h4 := hp4 (by omega)
            have := hahead p (hchain i p ops[i] hol h hci h4.1)
            rw [h4.2] at this; cases this
          · exact h
          · have := hp3 i h hci
            rw [hunl] at this; cases this
        subst hpi
        refine ⟨st (p + 1), by rw [hp2]; exact hopi, fun E' hE' => ?_⟩
        obtain ⟨q, h1, h2, h3, h4⟩ := st_next ch (ops.size - (p + 1)) (p + 1)
        refine ⟨q, by omega, ?_, fun j hj hc => ?_, fun hq => ?_⟩
        · rw [hE']
          have := st_const hstc (q - (p + 1)) (p + 1) (by omega) (fun j h5 h6 => h3 j h5 (by omega))
          rw [show p + 1 + (q - (p + 1)) = q by omega] at this
          exact this.symm
        · rw [hget]
          split
          · rfl
          · rename_i hne
            rcases Nat.lt_or_ge j p with h5 | h5
            · exact hp3 j h5 hc
            · rw [h3 j (by omega) hj] at hc; cases hc
        · have hcq := h4 (by omega)
          refine ⟨hcq, ?_⟩
          rw [hget, if_neg (by omega)]
          cases hlq : listed.getD q false with
          | false => rfl
          | true =>
            have := hclosed q p hlq (hchain q p ops[q] (by rw [Array.getElem?_toList]; exact Array.getElem?_eq_getElem hq) (by omega) hcq hci)
            rw [hunl] at this; cases this
      | false =>
        refine ⟨st p, ?_, fun E' hE' => ⟨p, hp1, hE', fun j hj hc => ?_, fun hq => ⟨(hp4 hq).1, ?_⟩⟩⟩
        · rw [hp2]
          have hopi' := hopi
          rw [hstc i hilt hci] at hopi'
          rcases Nat.lt_trichotomy p i with h | h | h
          · have h4 := hp4 (by omega)
            rcases hpast i p ops[i] v hol hv h hci h4.1 with h5 | h5
            · have := hahead p h5
              rw [h4.2] at this; cases this
            · exact h5
          · have h4 := hp4 (by omega)
            rw [h, hci] at h4
            cases h4.1
          · rcases st_last ch (p - (i + 1)) (i + 1) with h5 | ⟨q, h5, h6, h7, h8⟩
            · have := st_const hstc (p - (i + 1)) (i + 1) (by omega) h5
              rw [show i + 1 + (p - (i + 1)) = p by omega, hstc i hilt hci] at this
              rw [this]
              exact hopi'
            · have := st_const hstc (p - (q + 1)) (q + 1) (by omega) (fun j h9 h10 => h8 j (by omega) (by omega))
              rw [show q + 1 + (p - (q + 1)) = p by omega] at this
              rw [this]
              have hlq := hp3 q (by omega) h7
              rcases hpend i q ops[i] v hol hv (by omega) (by simp; omega) hci h7 with h9 | h9
              · have := hclosed q i hlq h9
                rw [hunl] at this; cases this
              · exact h9
        · rw [hget]
          split
          · rfl
          · exact hp3 j hj hc
        · rw [hget, if_neg]
          · exact (hp4 hq).2
          · rintro rfl
            have := (hp4 hq).1
            rw [hci] at this; cases this
    have hagree : ∀ x ∈ ops[i].looksAt ops, frN ops.toList vals fr i x = frD ops vals fr listed x := by
      intro x hx
      by_cases hw : ∃ k, dstAt ops.toList k = some x
      · obtain ⟨k, hk⟩ := hw
        have hk' := hk
        unfold dstAt at hk'
        obtain ⟨o2, ho2, hd2⟩ := Option.bind_eq_some_iff.1 hk'
        rw [Array.getElem?_toList] at ho2
        have hklt := (Array.getElem?_eq_some_iff.1 ho2).1
        have hkv : k < vals.length := by rw [hvl]; simpa using hklt
        rcases hok.looks i ops[i] k o2 x ho ho2 hd2 hx with rfl | ⟨hlt, he⟩ | ⟨hlt, he⟩
        · rw [frD_out fun k' hk' => by rw [hok.uniq k k' x hk hk']; exact hunl, frN_out _ _ _ _ _ fun k' hlt hk' => by have := hok.uniq k k' x hk hk'; omega]
        · rw [frD_in hok hk (hahead k he), frN_in ops.toList vals fr i k x vals[k] hvl hlt hk (List.getElem?_eq_getElem hkv) (fun k' hk' hd' => hk' (hok.uniq k k' x hk hd'))]
          simp [List.getD_eq_getElem?_getD, List.getElem?_eq_getElem hkv]
        · have hl : listed.getD k false = false := by
            cases hlk : listed.getD k false with
            | false => rfl
            | true =>
              have := hclosed k i hlk he
              rw [hunl] at this
              cases this
          rw [frD_out fun k' hk' => by rw [hok.uniq k k' x hk hk']; exact hl, frN_out _ _ _ _ _ fun k' hlt' hk' => by have := hok.uniq k k' x hk hk'; omega]
      · rw [frD_out fun k hk => absurd ⟨k, hk⟩ hw, frN_out _ _ _ _ _ fun k _ hk => hw ⟨k, hk⟩]
    have hopD := opT_congr hagree hopS
    refine opT_sound ho hI hF hopD fun E' v' hSE hI' hE' hT' hd' => ?_
    have hsz' : (listed.setIfInBounds i true).size = ops.size := by simpa using hsz
    have hget : ∀ k, (listed.setIfInBounds i true).getD k false = if k = i then true else listed.getD k false := by
      intro k
      rw [Array.getD_eq_getD_getElem?, Array.getElem?_setIfInBounds]
      by_cases hk : i = k
      · subst hk; simp [hsz, hilt]
      · rw [if_neg hk, if_neg (Ne.symm hk), Array.getD_eq_getD_getElem?]
    have hfr : frD ops vals fr (listed.setIfInBounds i true) = put (frD ops vals fr listed) ops[i].dst v := by
      funext t
      by_cases ht : ops[i].dst = some t
      · have hdi : dstAt ops.toList i = some t := by unfold dstAt; rw [Array.getElem?_toList, ho]; exact ht
        rw [frD_in hok hdi (by rw [hget, if_pos rfl]), ht]
        simp [put, upd, List.getD_eq_getElem?_getD, hv]
      · rw [put_ne ht]
        by_cases hx : ∃ k, dstAt ops.toList k = some t ∧ listed.getD k false = true
        · obtain ⟨k, hk, hl⟩ := hx
          rw [frD_in hok hk hl, frD_in hok hk (by rw [hget]; split <;> simp [hl])]
        · rw [frD_out (listed := listed) fun k hk => by
            cases hl : listed.getD k false with
            | false => rfl
            | true => exact absurd ⟨k, hk, hl⟩ hx]
          rw [frD_out fun k hk => ?_]
          rw [hget]
          have hki : k ≠ i := by
            rintro rfl
            unfold dstAt at hk
            rw [Array.getElem?_toList, ho] at hk
            exact ht hk
          rw [if_neg hki]
          cases hl : listed.getD k false with
          | false => rfl
          | true => exact absurd ⟨k, hk, hl⟩ hx
    refine ih (listed.setIfInBounds i true) E' (a.put ops[i].dst v') hsz' ?_ ?_ (hS' E' hSE) (hev.trans hE') hI' ?_ (by rw [Act.put_defers]; exact hd)
    · have hlt := filter_lt (fun i => !listed.getD i true) (fun k => !(listed.setIfInBounds i true).getD k true) (List.range ops.size) (fun x hx hq => by
          have hxl := List.mem_range.1 hx
          rw [hgd _ x (by omega), hget] at hq
          rw [hgd listed x (by omega)]
          by_cases hxi : x = i
          · rw [if_pos hxi] at hq; simp at hq
          · rw [if_neg hxi] at hq; exact hq) ⟨i, hir, hun, by rw [hgd _ i (by omega), hget, if_pos rfl]; rfl⟩
      omega
    · intro k o hk hl e he hb
      rw [hget] at hl ⊢
      by_cases hei : e.on = i
      · rw [if_pos hei]
      · rw [if_neg hei]
        by_cases hki : k = i
        · subst hki
          rw [ho] at hk
          cases hk
          exact haft' e he hb
        · rw [if_neg hki] at hl
          exact hcl k o hk hl e he hb
    · rw [hfr]
      exact (hF.evo hE').put hd' hT'

theorem drew_evo (E : Env) : Evo E { E with w := E.w.drew } :=
  ⟨rfl, rfl, rfl, Nat.le_refl _, fun _ _ h => ⟨h, rfl⟩, fun _ _ _ cs' _ h => ⟨⟨cs', h⟩, rfl, fun arr _ _ h => ⟨arr, h, rfl⟩⟩⟩

theorem drew_inv {E : Env} {w0 : World} (h : Inv E w0) : Inv { E with w := E.w.drew } w0 := by
  refine ⟨h.below.drew, h.hB, h.hN, fun r p e cs hx => ?_, h.inj, h.frz⟩
  obtain ⟨arr, ty, mk, a1, a2, a3, a4, a5⟩ := h.blk r p e cs hx
  exact ⟨arr, ty, mk, a1, a2, a3, a4, fun j c hc => (a5 j c hc).evo (drew_evo E) (fun b arr ty mk h => ⟨arr, h, rfl⟩) (fun _ _ _ _ _ => rfl)⟩

/-- A region whose order is drawn. -/
theorem W.draw {P : Program} {M n id : Nat} {ops : Array Oper} {Q : Ex → (Nat → T) → Store → Prop} {fr : Nat → T} {S : Store} (hm : P.follows .mixedOrders = true) (hok : drawOk ops = true) (hw : wpOpsT P ops n (.any 0 [] []) ops.toList (Q .normal) fr S) : W P M n (.region id ops true) Q fr S := by
  intro E a E0 w0 _ hS hev hI hF
  obtain ⟨vals, st, ch, h1, h2, h3, h4, h5, h6, _, h8, _, h10, _⟩ := walk_tells ops.toList _ fr S 0 [] [] rfl hw
  simp only [Nat.zero_add] at h6 h8 h10
  have hstart : ∀ i, (Array.replicate ops.size false).getD i false = false := by
    intro i
    rw [Array.getD_eq_getD_getElem?, Array.getElem?_replicate]
    split <;> rfl
  have hstc : ∀ i, i < ops.size → ch i = false → st (i + 1) = st i := fun k hk hc => h5 k ops[k] (by rw [Array.getElem?_toList]; exact Array.getElem?_eq_getElem hk) hc
  refine wp_region_any hm ?_
  refine draw_any (DrawOk.of hok) h1 h4 h5 h6 h8 h10 h3 ops.size (Array.replicate ops.size false) { E with w := E.w.drew } a (by simp) ?_ (fun i o _ hl => ?_) ?_ (hev.trans (drew_evo E)) (drew_inv hI) ?_ rfl
  · exact Nat.le_trans (List.length_filter_le _ _) (by simp)
  · rw [hstart] at hl; cases hl
  · obtain ⟨p, k1, k2, k3, k4⟩ := st_next ch ops.size 0
    refine ⟨p, by omega, ?_, fun j hj hc => ?_, fun hp => ⟨k4 (by omega), hstart p⟩⟩
    · have := st_const hstc p 0 (by omega) (fun j _ h => k3 j (by omega) (by omega))
      rw [Nat.zero_add] at this
      rw [this, h2]
      exact hS
    · rw [k3 j (by omega) hj] at hc; cases hc
  · have hfr : frD ops vals fr (Array.replicate ops.size false) = fr := by
      funext t
      exact frD_out fun k _ => hstart k
    rw [hfr]
    exact hF.evo (drew_evo E)

end Go.TL
