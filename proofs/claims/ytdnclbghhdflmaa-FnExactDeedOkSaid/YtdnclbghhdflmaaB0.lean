/- Deeds: what is right. No conditions. -/
import Derived.Test.YtdnclbghhdflmaaA1
namespace Go.TL
open Go.Proofs Go.RowKit

theorem spec_l1In (x lo hi : Int) : CallsT Try.prog [] F.spec_l1In [.v (.int .i64 x), .v (.int .i64 lo), .v (.int .i64 hi)] (.v (.bool (decide (lo ≤ x ∧ x ≤ hi)))) [] := by
  refine fnT C.spec_l1In ?_
  refine run ?_
  exact r_end [] []
instance (x lo hi : Int) : Con Try.prog F.spec_l1In [.v (.int .i64 x), .v (.int .i64 lo), .v (.int .i64 hi)] True (.v (.bool (decide (lo ≤ x ∧ x ≤ hi)))) [] := ⟨fun _ => spec_l1In x lo hi⟩
theorem impl_isSize (x : Int) : CallsT Try.prog [] F.impl_isSize [.v (.int .i64 x)] (.v (.bool (decide (0 ≤ x ∧ x ≤ 1000)))) [] := by
  refine fnT C.impl_isSize ?_
  refine run ?_
  exact r_end [] []
instance (x : Int) : Con Try.prog F.impl_isSize [.v (.int .i64 x)] True (.v (.bool (decide (0 ≤ x ∧ x ≤ 1000)))) [] := ⟨fun _ => impl_isSize x⟩
theorem impl_isNode (x : Int) : CallsT Try.prog [] F.impl_isNode [.v (.int .i64 x)] (.v (.bool (decide (0 ≤ x ∧ x ≤ 4)))) [] := by
  refine fnT C.impl_isNode ?_
  refine run ?_
  exact r_end [] []
instance (x : Int) : Con Try.prog F.impl_isNode [.v (.int .i64 x)] True (.v (.bool (decide (0 ≤ x ∧ x ≤ 4)))) [] := ⟨fun _ => impl_isNode x⟩
theorem impl_ofMail (x : Int) : CallsT Try.prog [] F.impl_ofMail [.v (.int .i64 x)] (.v (.bool (decide ((3 ≤ x ∧ x ≤ 6) ∨ x = 14)))) [] := by
  refine fnT C.impl_ofMail ?_
  refine run ?_
  exact r_end [] []
instance (x : Int) : Con Try.prog F.impl_ofMail [.v (.int .i64 x)] True (.v (.bool (decide ((3 ≤ x ∧ x ≤ 6) ∨ x = 14)))) [] := ⟨fun _ => impl_ofMail x⟩

structure DeedV where
  kind : Int
  at_ : Int
  to : Int
  rel : Int
  part : Int
  text : ByteArray
def deedC (d : DeedV) : List T := [.v (.int .i64 d.kind), .v (.int .i64 d.at_), .v (.int .i64 d.to), .v (.int .i64 d.rel), .v (.int .i64 d.part), .v (.string d.text)]

theorem laws_toDeed (d : DeedV) : CallsT Try.prog [] F.laws_toDeed [.agg (deedC d)] (.agg (deedC d)) [] := by
  unfold deedC
  refine fnT C.laws_toDeed ?_
  refine run ?_
  exact r_end [] []

instance (a b c d e : Int) (s : ByteArray) : Con Try.prog F.laws_toDeed [.agg [.v (.int .i64 a), .v (.int .i64 b), .v (.int .i64 c), .v (.int .i64 d), .v (.int .i64 e), .v (.string s)]] True (.agg [.v (.int .i64 a), .v (.int .i64 b), .v (.int .i64 c), .v (.int .i64 d), .v (.int .i64 e), .v (.string s)]) [] := ⟨fun _ => laws_toDeed ⟨a, b, c, d, e, s⟩⟩

/-- What a deed must be. -/
def deedP (k a t r p : Int) (s : ByteArray) : Prop :=
  if k = 1 ∨ k = 2 ∨ k = 8 then (0 ≤ a ∧ a ≤ 4) ∧ t = 0 ∧ r = 0 ∧ p = 0 ∧ s = ⟨#[]⟩
  else if k = 3 ∨ k = 4 ∨ k = 5 then (0 ≤ a ∧ a ≤ 59) ∧ t = 0 ∧ r = 0 ∧ p = 0 ∧ s = ⟨#[]⟩
  else if k = 6 then (0 ≤ a ∧ a ≤ 59) ∧ (0 ≤ t ∧ t ≤ 59) ∧ r = 0 ∧ p = 0 ∧ s = ⟨#[]⟩
  else if k = 7 then (0 ≤ a ∧ a ≤ 4) ∧ (0 ≤ t ∧ t ≤ 40000) ∧ (0 ≤ p ∧ p ≤ 40000) ∧ r = 0 ∧ s = ⟨#[]⟩
  else if k = 14 then (0 ≤ a ∧ a ≤ 59) ∧ (0 ≤ t ∧ t ≤ 40000) ∧ (0 ≤ p ∧ p ≤ 40000) ∧ r = 0 ∧ s = ⟨#[]⟩
  else if k = 9 then (0 ≤ a ∧ a ≤ 4) ∧ (0 ≤ t ∧ t ≤ 4) ∧ (1 ≤ r ∧ r ≤ 1000) ∧ (s.size : Int) ≤ 1000 ∧ p = 0
  else if k = 10 then (0 ≤ a ∧ a ≤ 4) ∧ (0 ≤ t ∧ t ≤ 4) ∧ (1 ≤ r ∧ r ≤ 1000) ∧ (0 ≤ p ∧ p ≤ 1000) ∧ s = ⟨#[]⟩
  else if k = 11 ∨ k = 12 ∨ k = 13 then (0 ≤ a ∧ a ≤ 4) ∧ (0 ≤ t ∧ t ≤ 4) ∧ (1 ≤ r ∧ r ≤ 1000) ∧ p = 0 ∧ s = ⟨#[]⟩
  else False
instance (k a t r p : Int) (s : ByteArray) : Decidable (deedP k a t r p s) := by unfold deedP; infer_instance

end Go.TL
