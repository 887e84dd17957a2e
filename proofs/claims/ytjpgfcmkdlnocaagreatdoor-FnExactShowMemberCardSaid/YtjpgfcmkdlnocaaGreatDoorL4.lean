/- The laws of fleets on trees. No conditions but those that are written. -/
import Derived.Test.YtjpgfcmkdlnocaaGreatDoorF5
import Derived.Test.YtjpgfcmkdlnocaaGreatDoorTOpen
namespace Go.TL
set_option linter.unusedSimpArgs false
open Go.Proofs Go.RowKit

theorem cut_le {a b : Int} (h : ¬ cutI (a - b) < 0) : b ≤ a := by
  unfold cutI at h; split at h <;> omega
theorem totFleet_le {l : List MemberV} {mail : List FlightV} (h : ¬ cutI (1048576 - totFleet l mail) < 0) : totFleet l mail ≤ 1048576 := cut_le h

end Go.TL
