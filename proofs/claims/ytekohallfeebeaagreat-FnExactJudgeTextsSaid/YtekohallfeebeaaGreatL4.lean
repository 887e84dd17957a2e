/- The laws of fleets on trees. No conditions but those that are written. -/
import Derived.Test.YtekohallfeebeaaGreatF5
import Derived.Test.YtekohallfeebeaaGreatTOpen
namespace Go.TL
open Go.Proofs Go.RowKit

theorem cut_le {a b : Int} (h : ¬ cutI (a - b) < 0) : b ≤ a := by
  unfold cutI at h; split at h <;> omega
theorem totFleet_le {l : List MemberV} {mail : List FlightV} (h : ¬ cutI (1048576 - totFleet l mail) < 0) : totFleet l mail ≤ 1048576 := cut_le h

set_option maxHeartbeats 4000000 in
theorem laws_FnExactFleetOk (k0 k1 : Nat) (of : Int) (l : List MemberV) (mail : List FlightV) (hpre : bndFleet l mail) : CallsT Tryz.prog [] F.laws_FnExactFleetOk [.agg [.v (.int .i64 of), .sl false k0 l.length 19 (rowT memberC l), .sl false k1 mail.length 2 (rowT flightC mail)]] (.v (.bool true)) [] := by
  refine fnT C.laws_FnExactFleetOk ?_
  have hb := hpre
  refine run ?_
  refine r_ifd (fun h => ?_) (fun h => ?_)
  · refine run ?_
    exact r_end [] []
  have ht := totFleet_le h
  have hbf : bndF l mail := ⟨hb, ht⟩
  refine run ?_
  exact r_end [] []
instance (k0 k1 : Nat) (of : Int) (l : List MemberV) (mail : List FlightV) : Con Tryz.prog F.laws_FnExactFleetOk [.agg [.v (.int .i64 of), .sl false k0 l.length 19 (rowT memberC l), .sl false k1 mail.length 2 (rowT flightC mail)]] (bndFleet l mail) (.v (.bool true)) [] := ⟨fun h => laws_FnExactFleetOk k0 k1 of l mail h⟩

end Go.TL
