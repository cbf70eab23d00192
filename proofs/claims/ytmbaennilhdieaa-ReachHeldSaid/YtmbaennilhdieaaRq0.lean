/- The examples of the specification, by computation. -/
import Derived.Test.YtmbaennilhdieaaR34
import Derived.Test.YtmbaennilhdieaaPx
namespace Go.Proofs.Ytmbaennilhdieaa
open Go.RowKit

theorem ord1 : reach_Order_O 3000 ⟨[⟨11, 0, 0, 0, [], [⟨7, 3, ⟨#[]⟩⟩, ⟨7, 2, ⟨#[]⟩⟩]⟩, ⟨11, 0, 0, 0, [], []⟩], [⟨11, 0, 0, 0, [], []⟩]⟩ [⟨7, 1, ⟨#[]⟩⟩] = some [1, 3, 2] := by kernel_rfl
end Go.Proofs.Ytmbaennilhdieaa
