/- The law of DeedOk on trees. No conditions but those that are written. -/
import Derived.Test.YtdnclbghhdflmaaB1
import Derived.Test.YtdnclbghhdflmaaB2
import Derived.Test.YtdnclbghhdflmaaNs
namespace Go.TL
open Go.Proofs Go.RowKit

instance (k a t r p : Int) (s : ByteArray) : Con Try.prog F.spec_DeedOk [.agg [.v (.int .i64 k), .v (.int .i64 a), .v (.int .i64 t), .v (.int .i64 r), .v (.int .i64 p), .v (.string s)]] True (.v (.bool (decide (deedP k a t r p s)))) [] := ⟨fun _ => spec_DeedOk k a t r p s⟩
instance (k a t r p : Int) (s : ByteArray) : Con Try.prog F.impl_DeedOk [.agg [.v (.int .i64 k), .v (.int .i64 a), .v (.int .i64 t), .v (.int .i64 r), .v (.int .i64 p), .v (.string s)]] True (.v (.bool (decide (deedP k a t r p s)))) [] := ⟨fun _ => impl_DeedOk k a t r p s⟩

/-- What is left of a room. -/
def leftI (left : Int) (n : Int) : Int := if left - n < 0 then -1 else left - n
theorem laws_szDeed (k a t r p left : Int) (s : ByteArray) (hs : s.size ≤ 140737488355328) (hl : 0 ≤ left ∧ left ≤ 1048576) : CallsT Try.prog [] F.laws_szDeed [.agg [.v (.int .i64 k), .v (.int .i64 a), .v (.int .i64 t), .v (.int .i64 r), .v (.int .i64 p), .v (.string s)], .v (.int .i64 left)] (.v (.int .i64 (leftI left s.size))) [] := by
  refine fnT C.laws_szDeed ?_
  refine run ?_
  refine r_ifd (fun h => ?_) (fun h => ?_)
  · rw [show leftI left s.size = -1 from if_pos h]
    refine run ?_
    exact r_end [] []
  · rw [show leftI left s.size = left - s.size from if_neg h]
    refine run ?_
    exact r_end [] []
instance (k a t r p left : Int) (s : ByteArray) : Con Try.prog F.laws_szDeed [.agg [.v (.int .i64 k), .v (.int .i64 a), .v (.int .i64 t), .v (.int .i64 r), .v (.int .i64 p), .v (.string s)], .v (.int .i64 left)] (s.size ≤ 140737488355328 ∧ 0 ≤ left ∧ left ≤ 1048576) (.v (.int .i64 (leftI left s.size))) [] := ⟨fun h => laws_szDeed k a t r p left s h.1 h.2⟩

theorem law_DeedOk (k a t r p : Int) (s : ByteArray) (hs : s.size ≤ 140737488355328) : CallsT Try.prog [] F.laws_FnExactDeedOk [.agg [.v (.int .i64 k), .v (.int .i64 a), .v (.int .i64 t), .v (.int .i64 r), .v (.int .i64 p), .v (.string s)]] (.v (.bool true)) [] := by
  refine fnT C.laws_FnExactDeedOk ?_
  refine run ?_
  refine r_ifd (fun h => ?_) (fun h => ?_)
  · refine run ?_
    exact r_end [] []
  refine run ?_
  exact r_end [] []

/-- Deeds that come in. -/
theorem open_Deed : Opens Try.prog Y.laws_Deed deedC (fun d => d.text.size ≤ 140737488351232) :=
  (Opens.st t25_so t25_sz (.cons t3_sz (.int t3_un) (.cons t3_sz (.int t3_un) (.cons t3_sz (.int t3_un) (.cons t3_sz (.int t3_un) (.cons t3_sz (.int t3_un) (.cons t9_sz (.str t9_un) .nil (by decide)) (by decide)) (by decide)) (by decide)) (by decide)) (by decide))).map
    (fun x : Int × Int × Int × Int × Int × ByteArray × Unit => (⟨x.1, x.2.1, x.2.2.1, x.2.2.2.1, x.2.2.2.2.1, x.2.2.2.2.2.1⟩ : DeedV)) (fun _ => rfl) (fun _ h => h.2.2.2.2.2.1)

end Go.TL
