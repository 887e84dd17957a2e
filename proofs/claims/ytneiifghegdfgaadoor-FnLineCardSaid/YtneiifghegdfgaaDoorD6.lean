/- Numbers read from texts: the library, the implementation, the law. No conditions but those that are written. -/
import Derived.Test.YtneiifghegdfgaaDoorD5
import Derived.Test.YtneiifghegdfgaaDoorShA
import Derived.BigCall
namespace Go.TL
set_option linter.unusedSimpArgs false
open Go.Proofs Go.RowKit
attribute [local irreducible] wpOpsT wpT EndT Ex.seq Ex.block W
open Go.Lib (itoa decDigits)

theorem CallsT.lib2 {P : Program} {g : FuncId} {fn : Func} {args : List T} {x y : Value} (hf : P.funcs[g]? = some fn) (hb : fn.body.isSome = true) (hn : (fn.name == "runtime.NumGoroutine") = false)
    (h : ∀ (E : Env) (w0 : World) (vals : Array Value), Inv E w0 → vals.size = args.length → (∀ i t, args[i]? = some t → TR E t (vals.getD i undef)) →
      Calls P g vals E.w fun e w' => e = .returned (.tuple #[x, y]) ∧ Below E.w.heap.size E.w w') : CallsT P [] g args (.tup [.v x, .v y]) [] := by
  refine ⟨⟨fn, hf, hb, hn⟩, fun E w0 vals hS hI hsz ht => ?_⟩
  refine (h E w0 vals hI hsz ht).mono fun e w' ⟨he, hw⟩ => ?_
  refine ⟨_, { E with w := w' }, he, rfl, hS, hI.old hw, Evo.old hw, .tup rfl fun i t hi => ?_⟩
  match i, hi with
  | 0, hi => cases hi; exact .v _
  | 1, hi => cases hi; exact .v _
  | i + 2, hi => simp at hi

theorem err_cell {name : String} {w : World} {B g : Nat} (h : GlErr name w B) (hg : Tryd.prog.globalNamed name = some g) : ∃ te pe, w.cell? ⟨g, 0, none⟩ = some (.iface te pe) := by
  obtain ⟨g', te, pe, h1, _, h3⟩ := h
  obtain rfl := Option.some.inj (hg.symm.trans h1)
  exact ⟨te, pe, by simpa using World.var?_cell hg h3 0⟩
theorem digits_calls (n : Int) (h0 : -9223372036854775808 ≤ n) (h1 : n ≤ 9223372036854775807) (w : World) (B : Nat) (hG : GlTab w B) :
    Calls Tryd.prog 56 #[.int .i64 n] w fun e w' => e = .returned (.string (itoaB n)) ∧ Below w.heap.size w w' := by
  obtain ⟨g, _, _, htab⟩ := hG
  go_enter Tryd.func56, Tryd.ntmps56
  go_wp2_with (go_at_call 66; refine (Tryd.strconv_Itoa n h0 h1 _ htab).mono ?_; rintro e w' ⟨rfl, k, os, rfl⟩)
  go_ret
  exact ⟨rfl, below_grow _ _ _⟩

theorem trim_len (s : ByteArray) : (Lib.trimPrefix s.data.toList [45]).length = (magL s.data.toList).length := by
  unfold magL
  cases h : s.data.toList with
  | nil => rfl
  | cons c r =>
    by_cases hc : c.toNat = 45
    · have e : c = 45 := UInt8.toNat_inj.1 (by rw [hc]; rfl)
      subst e
      rfl
    · have e : ¬ c = 45 := fun hh => hc (by rw [hh]; rfl)
      have hn : negC (c :: r) = false := by simp only [negC]; exact beq_false_of_ne hc
      rw [hn, if_neg (by decide)]
      have hp : Lib.hasPrefix (c :: r) [45] = false := by
        show ((45 : UInt8) == c && List.isPrefixOf [] r) = false
        rw [beq_false_of_ne (Ne.symm e)]; rfl
      rw [Lib.trimPrefix, hp, if_neg (by decide)]

theorem str_inj {a b : ByteArray} (h : a.toList = b.toList) : a = b := by
  have := str_eq a b
  rw [h, beq_self_eq_true] at this
  exact of_decide_eq_true this.symm
theorem size_itoa (v : Int) : (itoaB v).size = (itoa v).length := by show (itoa v).toArray.size = _; simp

set_option maxHeartbeats 4000000 in
set_option maxRecDepth 100000 in
theorem readNumber_calls (s : ByteArray) (most : Nat) (hm : most ≤ 18) (hs : s.size ≤ 1000000000) (w : World) (B : Nat) (hB : B ≤ w.heap.size) (hG : Gl w B) :
    Calls Tryd.prog 54 #[.string s, .int .i64 most] w fun e w' => e = .returned (.tuple #[.int .i64 (numB s most), .bool (decide (numOk s most))]) ∧ Below w.heap.size w w' := by
  have no (hn : ¬ numOk s most) : (Value.tuple #[.int .i64 0, .bool false]) = .tuple #[.int .i64 (numB s most), .bool (decide (numOk s most))] := by
    rw [show numB s most = 0 from if_neg hn, decide_eq_false hn]
  cases h : Lib.atoiAll s.data.toList with
  | ok v =>
    obtain ⟨v0, v1⟩ := Lib.atoiAll_bounds h
    have hok := atoi_ok hm h
    have hI := Tryd.strconv_Atoi_ok s (by omega) v h w
    have hI : Calls Tryd.prog 64 #[.string s] w fun e w' => e = .returned (.tuple #[.int .i64 v, .nilIface]) ∧ Below w.heap.size w w' := hI.mono fun e w' hh => ⟨hh.1, by
      rcases hh.2 with rfl | ⟨t, rfl⟩
      · exact Below.refl _ _
      · exact Lib.bytesWorld_below _ _ _⟩
    go_enter Tryd.func54, Tryd.ntmps54
    go_wp2_with (go_at_call 64; refine hI.mono ?_; rintro e w1 ⟨rfl, hw⟩)
    have hG1 : GlTab w1 B := hG.tab.mono ⟨hw.os, hw.tape, hw.output, hw.size, fun k hk => hw.block k (Nat.lt_of_lt_of_le hk hB)⟩
    go_wp2_with (go_at_call 56; refine (digits_calls v v0 v1 w1 B hG1).mono ?_; rintro e w2 ⟨rfl, hw2⟩)
    have below : ∀ w2, Below w1.heap.size w1 w2 → Below w.heap.size w w2 := fun w2 hh => hw.trans ⟨hh.os, hh.tape, hh.output, hh.size, fun k hk => hh.block k (Nat.lt_of_lt_of_le hk hw.size)⟩
    have hT := trim_len s
    · have hvl : (itoaB v).toList = s.toList := by assumption
      have hv : itoaB v = s := str_inj hvl
      have hvi : itoa v = s.data.toList := by rw [← hv]; simp [itoaB]
      go_wp2_with (go_at_call 65; refine (Tryd.strings_TrimPrefix s ⟨#[45]⟩ _).mono ?_; rintro e w3 ⟨rfl, rfl⟩)
      go_wp2
      · go_ret2
        have hn : ¬ numOk s most := fun hk => by have := (hok.1 hk).2; omega
        exact ⟨congrArg _ (no hn), below _ hw2⟩
      · go_ret2
        have hn : numOk s most := hok.2 ⟨hvi, by omega⟩
        have e : numB s most = v := (if_pos hn).trans (by rw [← hvi, numV_itoa])
        have yes : (Value.tuple #[.int .i64 v, .bool true]) = .tuple #[.int .i64 (numB s most), .bool (decide (numOk s most))] := by rw [e, decide_eq_true hn]
        exact ⟨congrArg _ yes, below _ hw2⟩
    · have hvl : ¬ (itoaB v).toList = s.toList := by assumption
      go_ret2
      have hn : ¬ numOk s most := fun hk => hvl (by
        have := (hok.1 hk).1
        have e : itoaB v = s := by
          apply ByteArray.ext
          show (itoa v).toArray = s.data
          rw [this]
        rw [e])
      exact ⟨congrArg _ (no hn), hw.trans ⟨hw2.os, hw2.tape, hw2.output, hw2.size, fun k hk => hw2.block k (Nat.lt_of_lt_of_le hk hw.size)⟩⟩
  | range =>
    have hn : ¬ numOk s most := atoi_no hm (by rw [h]; intro v hv; cases hv)
    obtain ⟨te, pe, hc⟩ := err_cell (g := G.ErrRange) hG.2.2 (by kernel_rfl)
    have hI := Tryd.strconv_Atoi_range s (by omega) h _ w hc (.inr ⟨te, pe, rfl⟩)
    go_enter Tryd.func54, Tryd.ntmps54
    go_wp2_with (go_at_call 64; refine hI.mono ?_; rintro e w1 ⟨N, rfl, _, _, hw⟩)
    go_wp2
    go_ret2
    exact ⟨congrArg _ (no hn), hw⟩
  | _ =>
    have hn : ¬ numOk s most := atoi_no hm (by rw [h]; intro v hv; cases hv)
    obtain ⟨te, pe, hc⟩ := err_cell (g := G.ErrSyntax) hG.2.1 (by kernel_rfl)
    have hI := Tryd.strconv_Atoi_syntax s (by omega) h _ w hc (.inr ⟨te, pe, rfl⟩)
    go_enter Tryd.func54, Tryd.ntmps54
    go_wp2_with (go_at_call 64; refine hI.mono ?_; rintro e w1 ⟨N, rfl, _, _, hw⟩)
    go_wp2
    go_ret2
    exact ⟨congrArg _ (no hn), hw⟩

theorem impl_readNumber (s : ByteArray) (most : Nat) (hm : most ≤ 18) (hs : s.size ≤ 1000000000) : CallsT Tryd.prog [] F.impl_readNumber [.v (.string s), .v (.int .i64 most)] (.tup [.v (.int .i64 (numB s most)), .v (.bool (decide (numOk s most)))]) [] := by
  refine CallsT.lib2 C.impl_readNumber (by kernel_rfl) (by decide +kernel) fun E w0 vals hI hsz ht => ?_
  have h0 := ht 0 _ rfl
  have h1 := ht 1 _ rfl
  match vals, hsz with
  | ⟨[v0, v1]⟩, _ =>
    have h0 : TR E (.v (.string s)) v0 := h0
    have h1 : TR E (.v (.int .i64 most)) v1 := h1
    cases h0
    cases h1
    exact readNumber_calls s most hm hs E.w E.B (Nat.le_trans hI.hB.1 hI.below.size) (hI.hB.2.mono hI.below)
instance (s : ByteArray) : Con Tryd.prog F.impl_readNumber [.v (.string s), .v (.int .i64 10)] (s.size ≤ 1000000000) (.tup [.v (.int .i64 (numB s 10)), .v (.bool (decide (numOk s 10)))]) [] := ⟨fun h => impl_readNumber s 10 (by decide) h⟩
instance (s : ByteArray) : Con Tryd.prog F.impl_readNumber [.v (.string s), .v (.int .i64 4)] (s.size ≤ 1000000000) (.tup [.v (.int .i64 (numB s 4)), .v (.bool (decide (numOk s 4)))]) [] := ⟨fun h => impl_readNumber s 4 (by decide) h⟩
instance (s : ByteArray) : Con Tryd.prog F.impl_readNumber [.v (.string s), .v (.int .i64 2)] (s.size ≤ 1000000000) (.tup [.v (.int .i64 (numB s 2)), .v (.bool (decide (numOk s 2)))]) [] := ⟨fun h => impl_readNumber s 2 (by decide) h⟩

set_option maxHeartbeats 4000000 in
theorem impl_NumOf (s : ByteArray) (hpre : s.size ≤ 1000000000) : CallsT Tryd.prog [] F.impl_NumOf [.v (.string s)] (.tup [.v (.int .i64 (numB s 10)), .v (.bool (decide (numOk s 10)))]) [] := by
  refine fnT C.impl_NumOf ?_
  refine run ?_
  exact r_end [] []
instance (s : ByteArray) : Con Tryd.prog F.impl_NumOf [.v (.string s)] (s.size ≤ 1000000000) (.tup [.v (.int .i64 (numB s 10)), .v (.bool (decide (numOk s 10)))]) [] := ⟨fun h => impl_NumOf s h⟩

end Go.TL
