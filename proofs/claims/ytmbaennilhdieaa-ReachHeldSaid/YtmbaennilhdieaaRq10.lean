/- Plain: the law for what can be read. -/
import Derived.Test.YtmbaennilhdieaaRq9
import Derived.Test.YtmbaennilhdieaaRd4
namespace Go.Proofs.Ytmbaennilhdieaa
open Go.RowKit

theorem reach_le : reachBytes ≤ 140737488355328 := by decide
theorem held_top (m : DMemory) (roots : List DValue) (hm : wfwDMemory m) (hr : WfL (fun z => wfwDValue z) roots) : pantomimelaw19_ReachHeld_O 6000 m roots = some true := by
  have hb := reach_le
  obtain ⟨⟨y1, y2⟩, o1, o2⟩ := hm
  have hc : ∀ c ∈ m.Young ++ m.Old, wfwDCell c := fun c hc => (List.mem_append.1 hc).elim (y2 c) (o2 c)
  refine held_spec ⟨Nat.le_trans y1 hb, Nat.le_trans o1 hb, Nat.le_trans hr.1 hb, fun c h => ?_⟩ (fun c h v hv => ?_) fun v hv => (hr.2 v hv).2.1
  · obtain ⟨-, -, -, -, s, t⟩ := hc c h
    exact ⟨Nat.le_trans s.1 hb, Nat.le_trans t.1 hb⟩
  · obtain ⟨-, -, -, -, s, t⟩ := hc c h
    rcases List.mem_append.1 hv with hv | hv
    · exact (s.2 v hv).2.1
    · exact (t.2 v hv).2.1
end Go.Proofs.Ytmbaennilhdieaa
