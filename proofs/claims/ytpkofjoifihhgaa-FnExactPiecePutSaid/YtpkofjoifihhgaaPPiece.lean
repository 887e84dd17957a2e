/- The program's numbers, texts and pieces. No conditions but those that are written. -/
import Derived.Test.YtpkofjoifihhgaaPNum
import Derived.Test.YtpkofjoifihhgaaTGo4
namespace Go.TL
open Go.Proofs Go.RowKit

def inB (x lo hi : Int) : T := .v (.bool (decide (lo ≤ x ∧ x ≤ hi)))

theorem iWithin (x lo hi : Int) : CallsT Try.prog [] 30 [.v (.int .i64 x), .v (.int .i64 lo), .v (.int .i64 hi)] (.v (.bool (decide (lo ≤ x ∧ x ≤ hi)))) [] := by
  refine fnT Try.func30 ?_
  refine run ?_
  refine r_guard (fun h => ?_) (fun h => ?_)
  · refine run ?_
    rw [show (decide (lo ≤ x ∧ x ≤ hi)) = decide (x ≤ hi) by simp [h]]
    exact r_end []
  · refine run ?_
    rw [show (decide (lo ≤ x ∧ x ≤ hi)) = false by simp [h]]
    exact r_end []

theorem sIn (x lo hi : Int) : CallsT Try.prog [] 25 [.v (.int .i64 x), .v (.int .i64 lo), .v (.int .i64 hi)] (.v (.bool (decide (lo ≤ x ∧ x ≤ hi)))) [] := by
  refine fnT Try.func25 ?_
  refine run ?_
  refine r_guard (fun h => ?_) (fun h => ?_)
  · refine run ?_
    rw [show (decide (lo ≤ x ∧ x ≤ hi)) = decide (x ≤ hi) by simp [h]]
    exact r_end []
  · refine run ?_
    rw [show (decide (lo ≤ x ∧ x ≤ hi)) = false by simp [h]]
    exact r_end []

attribute [go_sem] lend_nil lend_v lend_sl
theorem iIsRelease (x : Int) : CallsT Try.prog [] 28 [.v (.int .i64 x)] (.v (.bool (decide (1 ≤ x ∧ x ≤ 1000)))) [] := by
  refine fnT Try.func28 ?_
  refine run ?_
  refine r_callp 0 (iWithin _ _ _) ?_
  refine run ?_
  exact r_end []

theorem iIsSize (x : Int) : CallsT Try.prog [] 29 [.v (.int .i64 x)] (.v (.bool (decide (0 ≤ x ∧ x ≤ 1000)))) [] := by
  refine fnT Try.func29 ?_
  refine run ?_
  refine r_callp 0 (iWithin _ _ _) ?_
  refine run ?_
  exact r_end []

/-- A text's form. -/
def textL (s : ByteArray) : List Int := putNumL 10 s.size ++ strL s

theorem iPutText (s : ByteArray) (h : s.size ≤ 3000) : CallsT Try.prog [] 32 [.v (.string s)] (.ref 0 [] 0 (textL s).length) [⟨1, true, rowT u8C (textL s)⟩] := by
  refine fnT Try.func32 ?_
  refine run ?_
  refine r_ifd (fun hh => ?_) (fun hh => ?_)
  · omega
  refine run ?_
  refine r_callp 0 (iPutNum (s.size : Int) (by omega) (by omega)) ?_
  refine run ?_
  have hl := putNumL_len 10 s.size
  have hl2 := strL_length s
  refine r_app u8E (putNumL 10 s.size) (strL s) (by omega) ?_
  refine run ?_
  exact r_end [1]

theorem nums_len : ∀ l : List Int, (l.flatMap (putNumL 10)).length ≤ 10 * l.length
  | [] => by simp
  | x :: l => by
    have h1 := nums_len l
    have h2 := putNumL_len 10 x
    simp only [List.flatMap_cons, List.length_append, List.length_cons]
    omega

theorem iPutNums (l : List Int) (hl : ∀ x ∈ l, 0 ≤ x ∧ x < 2 ^ 63) (hn : l.length ≤ 1000) (k : Nat) : CallsT Try.prog [] 31 [.sl false k l.length 1 (rowT i64C l)] (.ref 0 [] 0 (l.flatMap (putNumL 10)).length) [⟨1, true, rowT u8C (l.flatMap (putNumL 10))⟩] := by
  refine fnT Try.func31 ?_
  refine run ?_
  refine r_loop_of (σ := Nat) (fun i => [(3, .ref 0 [] 0 ((l.take i).flatMap (putNumL 10)).length), (7, .sl false k l.length 1 (rowT i64C l)), (8, .v (.int .i64 l.length)), (9, .v (.int .i64 i))]) (fun i => [⟨1, true, rowT u8C ((l.take i).flatMap (putNumL 10))⟩]) (fun i => i ≤ l.length) (fun i => l.length - i) 0 [0] (Nat.zero_le _) Gc.of ?_
  intro i hi
  refine run ?_
  refine r_ifd (fun h => ?_) (fun h => ?_)
  · have hi2 : i < l.length := by omega
    refine run ?_
    have hy : l[i]? = some l[i] := List.getElem?_eq_getElem hi2
    have hb := hl _ (List.getElem_mem hi2)
    refine r_idx i hi2 ?_
    refine r_ld i64E hy ?_
    refine run ?_
    refine r_callp 0 (iPutNum l[i] hb.1 hb.2) ?_
    refine run ?_
    refine r_app u8E ((l.take i).flatMap (putNumL 10)) (putNumL 10 l[i]) ?_ ?_
    · have h1 := nums_len (l.take i)
      have h2 := putNumL_len 10 l[i]
      rw [List.length_take] at h1
      omega
    refine run ?_
    have e : (l.take i).flatMap (putNumL 10) ++ putNumL 10 l[i] = (l.take (i + 1)).flatMap (putNumL 10) := by
      rw [List.take_add_one, hy]
      simp only [Option.toList_some, List.flatMap_append, List.flatMap_cons, List.flatMap_nil, List.append_nil]
    rw [e, wrap64_in (by omega)]
    exact ⟨i + 1, [2], Gc.of, by omega, hi2⟩
  · have hi2 : i = l.length := by omega
    subst hi2
    refine run ?_
    rw [List.take_length]
    exact r_end [0]

/-- What a piece is. -/
def pieceOk (r i : Int) (s : ByteArray) : Prop := (1 ≤ r ∧ r ≤ 1000) ∧ (0 ≤ i ∧ i ≤ 1000) ∧ (1 ≤ (s.size : Int) ∧ (s.size : Int) ≤ 16)
instance (r i : Int) (s : ByteArray) : Decidable (pieceOk r i s) := inferInstanceAs (Decidable (_ ∧ _))
def pieceB (r i : Int) (s : ByteArray) : ByteArray := if pieceOk r i s then strOfT ([2, r, i].flatMap (putNumL 10) ++ textL s) else ⟨#[]⟩

theorem iPiecePut (r i : Int) (s : ByteArray) : CallsT Try.prog [] 9 [.v (.int .i64 r), .v (.int .i64 i), .v (.string s)] (.v (.string (pieceB r i s))) [] := by
  refine fnT Try.func9 ?_
  refine run ?_
  refine r_callp 0 (iIsRelease _) ?_
  refine run ?_
  refine r_guard (fun h1 => ?_) (fun h1 => ?_)
  · rw [show pieceB r i s = ⟨#[]⟩ from if_neg fun h => h1 h.1]
    refine run ?_
    exact r_end []
  have h1 := Decidable.not_not.1 h1
  refine run ?_
  refine r_callp 0 (iIsSize _) ?_
  refine run ?_
  refine r_guard (fun h2 => ?_) (fun h2 => ?_)
  · rw [show pieceB r i s = ⟨#[]⟩ from if_neg fun h => h2 h.2.1]
    refine run ?_
    exact r_end []
  have h2 := Decidable.not_not.1 h2
  refine run ?_
  refine r_callp 0 (iWithin _ _ _) ?_
  refine run ?_
  refine r_ifd (fun h3 => ?_) (fun h3 => ?_)
  · rw [show pieceB r i s = ⟨#[]⟩ from if_neg fun h => h3 h.2.2]
    refine run ?_
    exact r_end []
  have h3 := Decidable.not_not.1 h3
  rw [show pieceB r i s = strOfT ([2, r, i].flatMap (putNumL 10) ++ textL s) from if_pos ⟨h1, h2, h3⟩]
  refine run ?_
  refine r_callp 0 (iPutNums [2, r, i] (by intro x hx; simp only [List.mem_cons, List.not_mem_nil, or_false] at hx; omega) (Nat.le_of_ble_eq_true rfl) 0) ?_
  refine run ?_
  refine r_callp 0 (iPutText s (by omega)) ?_
  refine run ?_
  have e1 := nums_len [2, r, i]
  have e2 : (textL s).length ≤ 30 := by
    have := putNumL_len 10 s.size
    have := strL_length s
    simp only [textL, List.length_append]
    omega
  simp only [List.length_cons, List.length_nil] at e1
  refine r_app u8E ([2, r, i].flatMap (putNumL 10)) (textL s) (by omega) ?_
  refine r_conv (conv_bs bs43 u9 rfl) ?_
  refine run ?_
  exact r_end []

end Go.TL
