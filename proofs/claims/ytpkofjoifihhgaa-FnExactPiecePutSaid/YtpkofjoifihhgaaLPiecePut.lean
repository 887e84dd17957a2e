/- The law of PiecePut holds of all inputs. -/
import Derived.Test.YtpkofjoifihhgaaPSpiece
import Derived.Test.YtpkofjoifihhgaaTLaw
namespace Go.TL
open Go.Proofs Go.RowKit

theorem lawPiecePut (r i : Int) (s : ByteArray) : CallsT Try.prog [] 3 [.v (.int .i64 r), .v (.int .i64 i), .v (.string s)] (.v (.bool true)) [] := by
  refine fnT Try.func3 ?_
  refine run ?_
  refine r_ifd (fun h => ?_) (fun h => ?_)
  · refine run ?_
    exact r_end []
  refine run ?_
  refine r_callp 0 (sPiecePut r i s) ?_
  refine run ?_
  refine r_callp 0 (iPiecePut r i s) ?_
  refine run ?_
  refine r_ifd (fun h => ?_) (fun h => ?_)
  · exact h.elim
  refine run ?_
  exact r_end []

end Go.TL
