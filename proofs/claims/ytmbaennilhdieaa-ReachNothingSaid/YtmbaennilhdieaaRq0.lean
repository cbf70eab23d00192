/- The examples of the specification, by computation. -/
import Derived.Test.YtmbaennilhdieaaR3All
import Derived.Test.YtmbaennilhdieaaPx
namespace Go.Proofs.Ytmbaennilhdieaa
open Go.RowKit

end Go.Proofs.Ytmbaennilhdieaa
