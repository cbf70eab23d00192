/-
  No cell of these rows narrows 'for every input' (looked for: loops, veiled, ifaces, maps, wideKeys, modest, calm, conditions, laid).
  DERIVED. THE GIVEN ROWS OF THIS SEAT. 11 by the template 'for every input the law returns true; each argument reads behind the call as it read before'; 0 by the template 'total and deterministic' (their statements: YtmimkglhbmcokaaGreatTotals.lean).
  GIVEN WITH THE SEED: the statements are not yours to turn. If you find one false, say at which input.
  Laid BY PROGRAM, IN A SANDBOX (cutbox-rows.mjs): the forced cells as the released guide's own fill.sh prints them over the translation 3a41ae77896d4859… (all of the seat's roots in one cut). By AI agents, Wed Nov 11 2026. No macro, syntax, notation, axiom, sorry.
-/
import Derived.Test.YtmimkglhbmcokaaGreatChecked
import GoSem.Claim
import GoSem.ClaimJoined
import GoSem.ClaimMapViews
import Derived.JoinedTies
import Derived.KernelRfl
namespace Go.Proofs.YtmimkglhbmcokaaGreat
/- THE CELL 'sum', in the pinned program and in every row, IS THE sha256 OF THE DUMP (.gsa) THAT YtmimkglhbmcokaaGreatProg.lean LOADS. Nothing in Lean hashes anything: it is a label: what it is worth is what the hold of that sum in a sandbox is worth. -/
noncomputable def Tryz.pinned : Pinned := { name := "ytmimkglhbmcokaagreat", sum := "3a41ae77896d48596cc7ec400ca830bf73093fb0ad2f09a4c3ac1192680fa95a", checked := Tryz.checked }
namespace Rows
def none {H : Type} : Left H := { results := [], args := [] }

/-- 'pantomimetop.TopSchedules': WHATEVER THE INPUT: true; the input reads as it did. -/
def topSchedulesSpec : ChangeSpec := { name := "topSchedules", fn := fun _ => fun
  | [d1, d2, d3] => { results := [.lit (.bool true)], args := [d1, d2, d3] }
  | _ => none }
def topSchedulesRow : OpenClaim := { program := "ytmimkglhbmcokaagreat", sum := "3a41ae77896d48596cc7ec400ca830bf73093fb0ad2f09a4c3ac1192680fa95a", func := "pantomime/pantomimetop.TopSchedules", spec := "topSchedules", unfollowed := true, recurses := true, apart := false }
def TopSchedulesSaid : Prop := topSchedulesRow.holds Tryz.pinned (OpenSpec.ofChange topSchedulesSpec)

/-- ITS FALSE NEIGHBOUR: 'it returns false'. Refute it at one input. -/
def topSchedulesWrong : ChangeSpec := { name := "topSchedules", fn := fun _ => fun
  | [d1, d2, d3] => { results := [.lit (.bool false)], args := [d1, d2, d3] }
  | _ => none }
def TopSchedulesWrongFalsely : Prop := topSchedulesRow.holds Tryz.pinned (OpenSpec.ofChange topSchedulesWrong)

/-- 'pantomimelaw19.ReachMeets': WHATEVER THE INPUT: true; the input reads as it did. -/
def reachMeetsSpec : ChangeSpec := { name := "reachMeets", fn := fun _ => fun
  | [d1, d2, d3] => { results := [.lit (.bool true)], args := [d1, d2, d3] }
  | _ => none }
def reachMeetsRow : OpenClaim := { program := "ytmimkglhbmcokaagreat", sum := "3a41ae77896d48596cc7ec400ca830bf73093fb0ad2f09a4c3ac1192680fa95a", func := "pantomime/pantomimelaw19.ReachMeets", spec := "reachMeets", unfollowed := true, recurses := true, apart := false }
def ReachMeetsSaid : Prop := reachMeetsRow.holds Tryz.pinned (OpenSpec.ofChange reachMeetsSpec)

/-- ITS FALSE NEIGHBOUR: 'it returns false'. Refute it at one input. -/
def reachMeetsWrong : ChangeSpec := { name := "reachMeets", fn := fun _ => fun
  | [d1, d2, d3] => { results := [.lit (.bool false)], args := [d1, d2, d3] }
  | _ => none }
def ReachMeetsWrongFalsely : Prop := reachMeetsRow.holds Tryz.pinned (OpenSpec.ofChange reachMeetsWrong)

/-- 'pantomimelaw19.ReachAlike': WHATEVER THE INPUT: true; the input reads as it did. -/
def reachAlikeSpec : ChangeSpec := { name := "reachAlike", fn := fun _ => fun
  | [d1, d2, d3] => { results := [.lit (.bool true)], args := [d1, d2, d3] }
  | _ => none }
def reachAlikeRow : OpenClaim := { program := "ytmimkglhbmcokaagreat", sum := "3a41ae77896d48596cc7ec400ca830bf73093fb0ad2f09a4c3ac1192680fa95a", func := "pantomime/pantomimelaw19.ReachAlike", spec := "reachAlike", unfollowed := true, recurses := true, apart := false }
def ReachAlikeSaid : Prop := reachAlikeRow.holds Tryz.pinned (OpenSpec.ofChange reachAlikeSpec)

/-- ITS FALSE NEIGHBOUR: 'it returns false'. Refute it at one input. -/
def reachAlikeWrong : ChangeSpec := { name := "reachAlike", fn := fun _ => fun
  | [d1, d2, d3] => { results := [.lit (.bool false)], args := [d1, d2, d3] }
  | _ => none }
def ReachAlikeWrongFalsely : Prop := reachAlikeRow.holds Tryz.pinned (OpenSpec.ofChange reachAlikeWrong)

/-- 'pantomimelaw22.MajorCollects': WHATEVER THE INPUT: true; the input reads as it did. -/
def majorCollectsSpec : ChangeSpec := { name := "majorCollects", fn := fun _ => fun
  | [d1, d2] => { results := [.lit (.bool true)], args := [d1, d2] }
  | _ => none }
def majorCollectsRow : OpenClaim := { program := "ytmimkglhbmcokaagreat", sum := "3a41ae77896d48596cc7ec400ca830bf73093fb0ad2f09a4c3ac1192680fa95a", func := "pantomime/pantomimelaw22.MajorCollects", spec := "majorCollects", unfollowed := true, recurses := true, apart := false }
def MajorCollectsSaid : Prop := majorCollectsRow.holds Tryz.pinned (OpenSpec.ofChange majorCollectsSpec)

/-- ITS FALSE NEIGHBOUR: 'it returns false'. Refute it at one input. -/
def majorCollectsWrong : ChangeSpec := { name := "majorCollects", fn := fun _ => fun
  | [d1, d2] => { results := [.lit (.bool false)], args := [d1, d2] }
  | _ => none }
def MajorCollectsWrongFalsely : Prop := majorCollectsRow.holds Tryz.pinned (OpenSpec.ofChange majorCollectsWrong)

/-- 'pantomimelaw22.MajorAlike': WHATEVER THE INPUT: true; the input reads as it did. -/
def majorAlikeSpec : ChangeSpec := { name := "majorAlike", fn := fun _ => fun
  | [d1, d2] => { results := [.lit (.bool true)], args := [d1, d2] }
  | _ => none }
def majorAlikeRow : OpenClaim := { program := "ytmimkglhbmcokaagreat", sum := "3a41ae77896d48596cc7ec400ca830bf73093fb0ad2f09a4c3ac1192680fa95a", func := "pantomime/pantomimelaw22.MajorAlike", spec := "majorAlike", unfollowed := true, recurses := true, apart := false }
def MajorAlikeSaid : Prop := majorAlikeRow.holds Tryz.pinned (OpenSpec.ofChange majorAlikeSpec)

/-- ITS FALSE NEIGHBOUR: 'it returns false'. Refute it at one input. -/
def majorAlikeWrong : ChangeSpec := { name := "majorAlike", fn := fun _ => fun
  | [d1, d2] => { results := [.lit (.bool false)], args := [d1, d2] }
  | _ => none }
def MajorAlikeWrongFalsely : Prop := majorAlikeRow.holds Tryz.pinned (OpenSpec.ofChange majorAlikeWrong)

/-- 'pantomimelaw22.MajorTight': WHATEVER THE INPUT: true; the input reads as it did. -/
def majorTightSpec : ChangeSpec := { name := "majorTight", fn := fun _ => fun
  | [d1, d2] => { results := [.lit (.bool true)], args := [d1, d2] }
  | _ => none }
def majorTightRow : OpenClaim := { program := "ytmimkglhbmcokaagreat", sum := "3a41ae77896d48596cc7ec400ca830bf73093fb0ad2f09a4c3ac1192680fa95a", func := "pantomime/pantomimelaw22.MajorTight", spec := "majorTight", unfollowed := true, recurses := true, apart := false }
def MajorTightSaid : Prop := majorTightRow.holds Tryz.pinned (OpenSpec.ofChange majorTightSpec)

/-- ITS FALSE NEIGHBOUR: 'it returns false'. Refute it at one input. -/
def majorTightWrong : ChangeSpec := { name := "majorTight", fn := fun _ => fun
  | [d1, d2] => { results := [.lit (.bool false)], args := [d1, d2] }
  | _ => none }
def MajorTightWrongFalsely : Prop := majorTightRow.holds Tryz.pinned (OpenSpec.ofChange majorTightWrong)

/-- 'pantomimelaw20.MinorReach': WHATEVER THE INPUT: true; the input reads as it did. -/
def minorReachSpec : ChangeSpec := { name := "minorReach", fn := fun _ => fun
  | [d1, d2] => { results := [.lit (.bool true)], args := [d1, d2] }
  | _ => none }
def minorReachRow : OpenClaim := { program := "ytmimkglhbmcokaagreat", sum := "3a41ae77896d48596cc7ec400ca830bf73093fb0ad2f09a4c3ac1192680fa95a", func := "pantomime/pantomimelaw20.MinorReach", spec := "minorReach", unfollowed := true, recurses := true, apart := false }
def MinorReachSaid : Prop := minorReachRow.holds Tryz.pinned (OpenSpec.ofChange minorReachSpec)

/-- ITS FALSE NEIGHBOUR: 'it returns false'. Refute it at one input. -/
def minorReachWrong : ChangeSpec := { name := "minorReach", fn := fun _ => fun
  | [d1, d2] => { results := [.lit (.bool false)], args := [d1, d2] }
  | _ => none }
def MinorReachWrongFalsely : Prop := minorReachRow.holds Tryz.pinned (OpenSpec.ofChange minorReachWrong)

/-- 'pantomimelaw22.MajorMinor': WHATEVER THE INPUT: true; the input reads as it did. -/
def majorMinorSpec : ChangeSpec := { name := "majorMinor", fn := fun _ => fun
  | [d1, d2] => { results := [.lit (.bool true)], args := [d1, d2] }
  | _ => none }
def majorMinorRow : OpenClaim := { program := "ytmimkglhbmcokaagreat", sum := "3a41ae77896d48596cc7ec400ca830bf73093fb0ad2f09a4c3ac1192680fa95a", func := "pantomime/pantomimelaw22.MajorMinor", spec := "majorMinor", unfollowed := true, recurses := true, apart := false }
def MajorMinorSaid : Prop := majorMinorRow.holds Tryz.pinned (OpenSpec.ofChange majorMinorSpec)

/-- ITS FALSE NEIGHBOUR: 'it returns false'. Refute it at one input. -/
def majorMinorWrong : ChangeSpec := { name := "majorMinor", fn := fun _ => fun
  | [d1, d2] => { results := [.lit (.bool false)], args := [d1, d2] }
  | _ => none }
def MajorMinorWrongFalsely : Prop := majorMinorRow.holds Tryz.pinned (OpenSpec.ofChange majorMinorWrong)

/-- 'pantomimelaw23.HeapFrees': WHATEVER THE INPUT: true; the input reads as it did. -/
def heapFreesSpec : ChangeSpec := { name := "heapFrees", fn := fun _ => fun
  | [d] => { results := [.lit (.bool true)], args := [d] }
  | _ => none }
def heapFreesRow : OpenClaim := { program := "ytmimkglhbmcokaagreat", sum := "3a41ae77896d48596cc7ec400ca830bf73093fb0ad2f09a4c3ac1192680fa95a", func := "pantomime/pantomimelaw23.HeapFrees", spec := "heapFrees", unfollowed := true, recurses := true, apart := false }
def HeapFreesSaid : Prop := heapFreesRow.holds Tryz.pinned (OpenSpec.ofChange heapFreesSpec)

/-- ITS FALSE NEIGHBOUR: 'it returns false'. Refute it at one input. -/
def heapFreesWrong : ChangeSpec := { name := "heapFrees", fn := fun _ => fun
  | [d] => { results := [.lit (.bool false)], args := [d] }
  | _ => none }
def HeapFreesWrongFalsely : Prop := heapFreesRow.holds Tryz.pinned (OpenSpec.ofChange heapFreesWrong)

/-- 'pantomimelaw23.HeapTells': WHATEVER THE INPUT: true; the input reads as it did. -/
def heapTellsSpec : ChangeSpec := { name := "heapTells", fn := fun _ => fun
  | [d] => { results := [.lit (.bool true)], args := [d] }
  | _ => none }
def heapTellsRow : OpenClaim := { program := "ytmimkglhbmcokaagreat", sum := "3a41ae77896d48596cc7ec400ca830bf73093fb0ad2f09a4c3ac1192680fa95a", func := "pantomime/pantomimelaw23.HeapTells", spec := "heapTells", unfollowed := true, recurses := true, apart := false }
def HeapTellsSaid : Prop := heapTellsRow.holds Tryz.pinned (OpenSpec.ofChange heapTellsSpec)

/-- ITS FALSE NEIGHBOUR: 'it returns false'. Refute it at one input. -/
def heapTellsWrong : ChangeSpec := { name := "heapTells", fn := fun _ => fun
  | [d] => { results := [.lit (.bool false)], args := [d] }
  | _ => none }
def HeapTellsWrongFalsely : Prop := heapTellsRow.holds Tryz.pinned (OpenSpec.ofChange heapTellsWrong)

/-- 'pantomimelaw23.HeapKeeps': WHATEVER THE INPUT: true; the input reads as it did. -/
def heapKeepsSpec : ChangeSpec := { name := "heapKeeps", fn := fun _ => fun
  | [d1, d2] => { results := [.lit (.bool true)], args := [d1, d2] }
  | _ => none }
def heapKeepsRow : OpenClaim := { program := "ytmimkglhbmcokaagreat", sum := "3a41ae77896d48596cc7ec400ca830bf73093fb0ad2f09a4c3ac1192680fa95a", func := "pantomime/pantomimelaw23.HeapKeeps", spec := "heapKeeps", unfollowed := true, recurses := true, apart := false }
def HeapKeepsSaid : Prop := heapKeepsRow.holds Tryz.pinned (OpenSpec.ofChange heapKeepsSpec)

/-- ITS FALSE NEIGHBOUR: 'it returns false'. Refute it at one input. -/
def heapKeepsWrong : ChangeSpec := { name := "heapKeeps", fn := fun _ => fun
  | [d1, d2] => { results := [.lit (.bool false)], args := [d1, d2] }
  | _ => none }
def HeapKeepsWrongFalsely : Prop := heapKeepsRow.holds Tryz.pinned (OpenSpec.ofChange heapKeepsWrong)

/- THE SECOND FORM. 'bulk': how many values and letters a reading holds, each counted each time it is reached (what is shared counts as often as it is met; a slice's spare places count too). A statement '..UptoSaid' is the law's where the arguments, and the package variables that the reading takes, are together of bulk at most 1048576: NARROWER than '..Said'. Prove '..Said' where nothing that the law and all that it calls make is longer than what came in: it says more and counts as full. Else prove '..UptoSaid'. A law counts once. -/
mutual
def uptoBulk {H : Type} : DataW H → Nat
  | .lit (.string bytes) => bytes.length + 1
  | .lit _ => 1
  | .nil => 1
  | .ptr d => uptoBulk d + 1
  | .slice elems spare => uptoBulkAll elems + uptoBulkAll spare + 1
  | .agg parts => uptoBulkAll parts + 1
  | .iface _ d => uptoBulk d + 1
  | .map entries => uptoBulkEntries entries + 1
  | .held _ => 1
def uptoBulkAll {H : Type} : List (DataW H) → Nat
  | [] => 0
  | d :: r => uptoBulk d + uptoBulkAll r
def uptoBulkEntries {H : Type} : List (Lit × DataW H) → Nat
  | [] => 0
  | x :: r => uptoBulkEntry x + uptoBulkEntries r
def uptoBulkEntry {H : Type} : Lit × DataW H → Nat
  | (.string bytes, d) => bytes.length + uptoBulk d + 1
  | (_, d) => uptoBulk d + 1
 end
def uptoSmall : (H : Type) → List (DataW H) → Bool := fun _ ds => decide (uptoBulkAll ds ≤ 1048576)
def OpenSpec.upto (s : _root_.Go.ChangeSpec) : _root_.Go.OpenSpec := { _root_.Go.OpenSpec.ofChange s with cond := some uptoSmall }

/-- 'pantomimetop.TopSchedules', WHERE WHAT IT READS IS OF BULK AT MOST 1048576: true; the input reads as it did. -/
def topSchedulesUptoRow : OpenClaim := { program := "ytmimkglhbmcokaagreat", sum := "3a41ae77896d48596cc7ec400ca830bf73093fb0ad2f09a4c3ac1192680fa95a", func := "pantomime/pantomimetop.TopSchedules", spec := "topSchedules", unfollowed := true, recurses := true, apart := false, narrowed := true }
def TopSchedulesUptoSaid : Prop := topSchedulesUptoRow.holds Tryz.pinned (OpenSpec.upto topSchedulesSpec)

/-- 'pantomimelaw19.ReachMeets', WHERE WHAT IT READS IS OF BULK AT MOST 1048576: true; the input reads as it did. -/
def reachMeetsUptoRow : OpenClaim := { program := "ytmimkglhbmcokaagreat", sum := "3a41ae77896d48596cc7ec400ca830bf73093fb0ad2f09a4c3ac1192680fa95a", func := "pantomime/pantomimelaw19.ReachMeets", spec := "reachMeets", unfollowed := true, recurses := true, apart := false, narrowed := true }
def ReachMeetsUptoSaid : Prop := reachMeetsUptoRow.holds Tryz.pinned (OpenSpec.upto reachMeetsSpec)

/-- 'pantomimelaw19.ReachAlike', WHERE WHAT IT READS IS OF BULK AT MOST 1048576: true; the input reads as it did. -/
def reachAlikeUptoRow : OpenClaim := { program := "ytmimkglhbmcokaagreat", sum := "3a41ae77896d48596cc7ec400ca830bf73093fb0ad2f09a4c3ac1192680fa95a", func := "pantomime/pantomimelaw19.ReachAlike", spec := "reachAlike", unfollowed := true, recurses := true, apart := false, narrowed := true }
def ReachAlikeUptoSaid : Prop := reachAlikeUptoRow.holds Tryz.pinned (OpenSpec.upto reachAlikeSpec)

/-- 'pantomimelaw22.MajorCollects', WHERE WHAT IT READS IS OF BULK AT MOST 1048576: true; the input reads as it did. -/
def majorCollectsUptoRow : OpenClaim := { program := "ytmimkglhbmcokaagreat", sum := "3a41ae77896d48596cc7ec400ca830bf73093fb0ad2f09a4c3ac1192680fa95a", func := "pantomime/pantomimelaw22.MajorCollects", spec := "majorCollects", unfollowed := true, recurses := true, apart := false, narrowed := true }
def MajorCollectsUptoSaid : Prop := majorCollectsUptoRow.holds Tryz.pinned (OpenSpec.upto majorCollectsSpec)

/-- 'pantomimelaw22.MajorAlike', WHERE WHAT IT READS IS OF BULK AT MOST 1048576: true; the input reads as it did. -/
def majorAlikeUptoRow : OpenClaim := { program := "ytmimkglhbmcokaagreat", sum := "3a41ae77896d48596cc7ec400ca830bf73093fb0ad2f09a4c3ac1192680fa95a", func := "pantomime/pantomimelaw22.MajorAlike", spec := "majorAlike", unfollowed := true, recurses := true, apart := false, narrowed := true }
def MajorAlikeUptoSaid : Prop := majorAlikeUptoRow.holds Tryz.pinned (OpenSpec.upto majorAlikeSpec)

/-- 'pantomimelaw22.MajorTight', WHERE WHAT IT READS IS OF BULK AT MOST 1048576: true; the input reads as it did. -/
def majorTightUptoRow : OpenClaim := { program := "ytmimkglhbmcokaagreat", sum := "3a41ae77896d48596cc7ec400ca830bf73093fb0ad2f09a4c3ac1192680fa95a", func := "pantomime/pantomimelaw22.MajorTight", spec := "majorTight", unfollowed := true, recurses := true, apart := false, narrowed := true }
def MajorTightUptoSaid : Prop := majorTightUptoRow.holds Tryz.pinned (OpenSpec.upto majorTightSpec)

/-- 'pantomimelaw20.MinorReach', WHERE WHAT IT READS IS OF BULK AT MOST 1048576: true; the input reads as it did. -/
def minorReachUptoRow : OpenClaim := { program := "ytmimkglhbmcokaagreat", sum := "3a41ae77896d48596cc7ec400ca830bf73093fb0ad2f09a4c3ac1192680fa95a", func := "pantomime/pantomimelaw20.MinorReach", spec := "minorReach", unfollowed := true, recurses := true, apart := false, narrowed := true }
def MinorReachUptoSaid : Prop := minorReachUptoRow.holds Tryz.pinned (OpenSpec.upto minorReachSpec)

/-- 'pantomimelaw22.MajorMinor', WHERE WHAT IT READS IS OF BULK AT MOST 1048576: true; the input reads as it did. -/
def majorMinorUptoRow : OpenClaim := { program := "ytmimkglhbmcokaagreat", sum := "3a41ae77896d48596cc7ec400ca830bf73093fb0ad2f09a4c3ac1192680fa95a", func := "pantomime/pantomimelaw22.MajorMinor", spec := "majorMinor", unfollowed := true, recurses := true, apart := false, narrowed := true }
def MajorMinorUptoSaid : Prop := majorMinorUptoRow.holds Tryz.pinned (OpenSpec.upto majorMinorSpec)

/-- 'pantomimelaw23.HeapFrees', WHERE WHAT IT READS IS OF BULK AT MOST 1048576: true; the input reads as it did. -/
def heapFreesUptoRow : OpenClaim := { program := "ytmimkglhbmcokaagreat", sum := "3a41ae77896d48596cc7ec400ca830bf73093fb0ad2f09a4c3ac1192680fa95a", func := "pantomime/pantomimelaw23.HeapFrees", spec := "heapFrees", unfollowed := true, recurses := true, apart := false, narrowed := true }
def HeapFreesUptoSaid : Prop := heapFreesUptoRow.holds Tryz.pinned (OpenSpec.upto heapFreesSpec)

/-- 'pantomimelaw23.HeapTells', WHERE WHAT IT READS IS OF BULK AT MOST 1048576: true; the input reads as it did. -/
def heapTellsUptoRow : OpenClaim := { program := "ytmimkglhbmcokaagreat", sum := "3a41ae77896d48596cc7ec400ca830bf73093fb0ad2f09a4c3ac1192680fa95a", func := "pantomime/pantomimelaw23.HeapTells", spec := "heapTells", unfollowed := true, recurses := true, apart := false, narrowed := true }
def HeapTellsUptoSaid : Prop := heapTellsUptoRow.holds Tryz.pinned (OpenSpec.upto heapTellsSpec)

/-- 'pantomimelaw23.HeapKeeps', WHERE WHAT IT READS IS OF BULK AT MOST 1048576: true; the input reads as it did. -/
def heapKeepsUptoRow : OpenClaim := { program := "ytmimkglhbmcokaagreat", sum := "3a41ae77896d48596cc7ec400ca830bf73093fb0ad2f09a4c3ac1192680fa95a", func := "pantomime/pantomimelaw23.HeapKeeps", spec := "heapKeeps", unfollowed := true, recurses := true, apart := false, narrowed := true }
def HeapKeepsUptoSaid : Prop := heapKeepsUptoRow.holds Tryz.pinned (OpenSpec.upto heapKeepsSpec)

end Rows
end Go.Proofs.YtmimkglhbmcokaaGreat
