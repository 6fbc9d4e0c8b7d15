/- Whether a prefix stands among routes. -/
import Derived.Test.YtfgpppgehbpblaaDoorLpmList
namespace Go.Proofs.YtfgpppgehbpblaaDoor
open Lp
/-- Whether a prefix stands among routes. -/
def hadB (xs : List Rt) (a l : Int) : Bool := xs.any fun t => t.1 == a && t.2.1 == l
end Go.Proofs.YtfgpppgehbpblaaDoor
