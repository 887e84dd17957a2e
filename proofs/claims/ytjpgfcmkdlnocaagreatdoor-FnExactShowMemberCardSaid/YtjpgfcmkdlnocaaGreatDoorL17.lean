/- The law of ShowMember on trees. No conditions but those that are written. -/
import Derived.Test.YtjpgfcmkdlnocaaGreatDoorV1
import Derived.Test.YtjpgfcmkdlnocaaGreatDoorL4
namespace Go.TL
set_option linter.unusedSimpArgs false
open Go.Proofs Go.RowKit
attribute [local irreducible] wpOpsT wpT EndT Ex.seq Ex.block W

set_option maxHeartbeats 4000000 in
theorem laws_FnExactShowMember (k0 k1 : Nat) (of : Int) (l : List MemberV) (mail : List FlightV) (i : Int) (hpre : bndFleet l mail) : CallsT Tryz.prog [] F.laws_FnExactShowMember [.agg [.v (.int .i64 of), .sl false k0 l.length 19 (rowT memberC l), .sl false k1 mail.length 2 (rowT flightC mail)], .v (.int .i64 i)] (.v (.bool true)) [] := by
  refine fnT C.laws_FnExactShowMember ?_
  have hb := hpre
  refine run ?_
  refine r_ifd (fun h => ?_) (fun h => ?_)
  · refine run ?_
    exact r_end [] []
  have ht := totFleet_le h
  have hbf : bndF l mail := ⟨hb, ht⟩
  refine run ?_
  exact r_end [] []
instance (k0 k1 : Nat) (of : Int) (l : List MemberV) (mail : List FlightV) (i : Int) : Con Tryz.prog F.laws_FnExactShowMember [.agg [.v (.int .i64 of), .sl false k0 l.length 19 (rowT memberC l), .sl false k1 mail.length 2 (rowT flightC mail)], .v (.int .i64 i)] (bndFleet l mail) (.v (.bool true)) [] := ⟨fun h => laws_FnExactShowMember k0 k1 of l mail i h⟩

end Go.TL
