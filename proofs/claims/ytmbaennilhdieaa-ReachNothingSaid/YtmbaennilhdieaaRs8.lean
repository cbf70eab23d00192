/- Plain: ReachNothing for what can be read. -/
import Derived.Test.YtmbaennilhdieaaRs7
import Derived.Test.YtmbaennilhdieaaRd4
namespace Go.Proofs.Ytmbaennilhdieaa
open Go.RowKit

theorem reach_le : reachBytes ≤ 140737488355328 := by decide
theorem read_mem (m : DMemory) (roots : List DValue) (hm : wfwDMemory m) (hr : WfL (fun z => wfwDValue z) roots) : Bnd 140737488355328 m roots ∧ W64 m ∧ ∀ v ∈ roots, in64 v.N := by
  have hb := reach_le
  obtain ⟨⟨y1, y2⟩, o1, o2⟩ := hm
  have hc : ∀ c ∈ m.Young ++ m.Old, wfwDCell c := fun c hc => (List.mem_append.1 hc).elim (y2 c) (o2 c)
  refine ⟨⟨Nat.le_trans y1 hb, Nat.le_trans o1 hb, Nat.le_trans hr.1 hb, fun c h => ?_⟩, fun c h v hv => ?_, fun v hv => (hr.2 v hv).2.1⟩
  · obtain ⟨-, -, -, -, s, t⟩ := hc c h
    exact ⟨Nat.le_trans s.1 hb, Nat.le_trans t.1 hb⟩
  · obtain ⟨-, -, -, -, s, t⟩ := hc c h
    rcases List.mem_append.1 hv with hv | hv
    · exact (s.2 v hv).2.1
    · exact (t.2 v hv).2.1
theorem nothing_top (m : DMemory) (roots : List DValue) (hm : wfwDMemory m) (hr : WfL (fun z => wfwDValue z) roots) : pantomimelaw19_ReachNothing_O 6000 m roots = some true := by
  obtain ⟨h1, h2, h3⟩ := read_mem m roots hm hr
  exact nothing_spec h1 h2 h3
end Go.Proofs.Ytmbaennilhdieaa
