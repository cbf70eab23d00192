/-
  No cell of these rows narrows 'for every input' (looked for: loops, veiled, ifaces, maps, wideKeys, modest, calm, conditions, laid).
  DERIVED. THE GIVEN ROWS OF THIS SEAT. 4 by the template 'for every input the law returns true; each argument reads behind the call as it read before'; 0 by the template 'total and deterministic' (their statements: YtmbaennilhdieaaTotals.lean).
  GIVEN WITH THE SEED: the statements are not yours to turn. If you find one false, say at which input.
  Laid BY PROGRAM, IN A SANDBOX (cutbox-rows.mjs): the forced cells as the released guide's own fill.sh prints them over the translation 7ae0a4ee1f0e2864… (all of the seat's roots in one cut). By AI agents, Wed Nov 11 2026. No macro, syntax, notation, axiom, sorry.
-/
import Derived.Test.YtmbaennilhdieaaChecked
import GoSem.Claim
import GoSem.ClaimJoined
import GoSem.ClaimMapViews
import Derived.JoinedTies
import Derived.KernelRfl
namespace Go.Proofs.Ytmbaennilhdieaa
/- THE CELL 'sum', in the pinned program and in every row, IS THE sha256 OF THE DUMP (.gsa) THAT YtmbaennilhdieaaProg.lean LOADS. Nothing in Lean hashes anything: it is a label: what it is worth is what the hold of that sum in a sandbox is worth. -/
noncomputable def Try.pinned : Pinned := { name := "ytmbaennilhdieaa", sum := "7ae0a4ee1f0e286465e8744e352f7ea9715de565c39d85a199a8be5262cb922a", checked := Try.checked }
namespace Rows
def none {H : Type} : Left H := { results := [], args := [] }

/-- 'pantomimelaw20.MinorAgain': WHATEVER THE INPUT: true; the input reads as it did. -/
def minorAgainSpec : ChangeSpec := { name := "minorAgain", fn := fun _ => fun
  | [d1, d2] => { results := [.lit (.bool true)], args := [d1, d2] }
  | _ => none }
def minorAgainRow : OpenClaim := { program := "ytmbaennilhdieaa", sum := "7ae0a4ee1f0e286465e8744e352f7ea9715de565c39d85a199a8be5262cb922a", func := "pantomime/pantomimelaw20.MinorAgain", spec := "minorAgain", unfollowed := true, recurses := true, apart := false }
def MinorAgainSaid : Prop := minorAgainRow.holds Try.pinned (OpenSpec.ofChange minorAgainSpec)

/-- ITS FALSE NEIGHBOUR: 'it returns false'. Refute it at one input. -/
def minorAgainWrong : ChangeSpec := { name := "minorAgain", fn := fun _ => fun
  | [d1, d2] => { results := [.lit (.bool false)], args := [d1, d2] }
  | _ => none }
def MinorAgainWrongFalsely : Prop := minorAgainRow.holds Try.pinned (OpenSpec.ofChange minorAgainWrong)

/-- 'pantomimelaw19.ReachHeld': WHATEVER THE INPUT: true; the input reads as it did. -/
def reachHeldSpec : ChangeSpec := { name := "reachHeld", fn := fun _ => fun
  | [d1, d2] => { results := [.lit (.bool true)], args := [d1, d2] }
  | _ => none }
def reachHeldRow : OpenClaim := { program := "ytmbaennilhdieaa", sum := "7ae0a4ee1f0e286465e8744e352f7ea9715de565c39d85a199a8be5262cb922a", func := "pantomime/pantomimelaw19.ReachHeld", spec := "reachHeld", unfollowed := true, recurses := true, apart := false }
def ReachHeldSaid : Prop := reachHeldRow.holds Try.pinned (OpenSpec.ofChange reachHeldSpec)

/-- ITS FALSE NEIGHBOUR: 'it returns false'. Refute it at one input. -/
def reachHeldWrong : ChangeSpec := { name := "reachHeld", fn := fun _ => fun
  | [d1, d2] => { results := [.lit (.bool false)], args := [d1, d2] }
  | _ => none }
def ReachHeldWrongFalsely : Prop := reachHeldRow.holds Try.pinned (OpenSpec.ofChange reachHeldWrong)

/-- 'pantomimelaw19.ReachNothing': WHATEVER THE INPUT: true; the input reads as it did. -/
def reachNothingSpec : ChangeSpec := { name := "reachNothing", fn := fun _ => fun
  | [d1, d2] => { results := [.lit (.bool true)], args := [d1, d2] }
  | _ => none }
def reachNothingRow : OpenClaim := { program := "ytmbaennilhdieaa", sum := "7ae0a4ee1f0e286465e8744e352f7ea9715de565c39d85a199a8be5262cb922a", func := "pantomime/pantomimelaw19.ReachNothing", spec := "reachNothing", unfollowed := true, recurses := true, apart := false }
def ReachNothingSaid : Prop := reachNothingRow.holds Try.pinned (OpenSpec.ofChange reachNothingSpec)

/-- ITS FALSE NEIGHBOUR: 'it returns false'. Refute it at one input. -/
def reachNothingWrong : ChangeSpec := { name := "reachNothing", fn := fun _ => fun
  | [d1, d2] => { results := [.lit (.bool false)], args := [d1, d2] }
  | _ => none }
def ReachNothingWrongFalsely : Prop := reachNothingRow.holds Try.pinned (OpenSpec.ofChange reachNothingWrong)

/-- 'pantomimelaw22.MajorPlaces': WHATEVER THE INPUT: true; the input reads as it did. -/
def majorPlacesSpec : ChangeSpec := { name := "majorPlaces", fn := fun _ => fun
  | [d1, d2] => { results := [.lit (.bool true)], args := [d1, d2] }
  | _ => none }
def majorPlacesRow : OpenClaim := { program := "ytmbaennilhdieaa", sum := "7ae0a4ee1f0e286465e8744e352f7ea9715de565c39d85a199a8be5262cb922a", func := "pantomime/pantomimelaw22.MajorPlaces", spec := "majorPlaces", unfollowed := true, recurses := true, apart := false }
def MajorPlacesSaid : Prop := majorPlacesRow.holds Try.pinned (OpenSpec.ofChange majorPlacesSpec)

/-- ITS FALSE NEIGHBOUR: 'it returns false'. Refute it at one input. -/
def majorPlacesWrong : ChangeSpec := { name := "majorPlaces", fn := fun _ => fun
  | [d1, d2] => { results := [.lit (.bool false)], args := [d1, d2] }
  | _ => none }
def MajorPlacesWrongFalsely : Prop := majorPlacesRow.holds Try.pinned (OpenSpec.ofChange majorPlacesWrong)

/- THE SECOND FORM. 'bulk': how many values and letters a reading holds, each counted each time it is reached (what is shared counts as often as it is met; a slice's spare places count too). A statement '..UptoSaid' is the law's where the arguments, and the package variables that the reading takes, are together of bulk at most 1048576: NARROWER than '..Said'. Prove '..Said' where nothing that the law and all that it calls make is longer than what came in: it says more and counts as full. Else prove '..UptoSaid'. A law counts once. -/
mutual
def uptoBulk {H : Type} : DataW H → Nat
  | .lit (.string bytes) => bytes.length + 1
  | .lit _ => 1
  | .nil => 1
  | .ptr d => uptoBulk d + 1
  | .slice elems spare => uptoBulkAll elems + uptoBulkAll spare + 1
  | .agg parts => uptoBulkAll parts + 1
  | .iface _ d => uptoBulk d + 1
  | .map entries => uptoBulkEntries entries + 1
  | .held _ => 1
def uptoBulkAll {H : Type} : List (DataW H) → Nat
  | [] => 0
  | d :: r => uptoBulk d + uptoBulkAll r
def uptoBulkEntries {H : Type} : List (Lit × DataW H) → Nat
  | [] => 0
  | x :: r => uptoBulkEntry x + uptoBulkEntries r
def uptoBulkEntry {H : Type} : Lit × DataW H → Nat
  | (.string bytes, d) => bytes.length + uptoBulk d + 1
  | (_, d) => uptoBulk d + 1
 end
def uptoSmall : (H : Type) → List (DataW H) → Bool := fun _ ds => decide (uptoBulkAll ds ≤ 1048576)
def OpenSpec.upto (s : _root_.Go.ChangeSpec) : _root_.Go.OpenSpec := { _root_.Go.OpenSpec.ofChange s with cond := some uptoSmall }

/-- 'pantomimelaw20.MinorAgain', WHERE WHAT IT READS IS OF BULK AT MOST 1048576: true; the input reads as it did. -/
def minorAgainUptoRow : OpenClaim := { program := "ytmbaennilhdieaa", sum := "7ae0a4ee1f0e286465e8744e352f7ea9715de565c39d85a199a8be5262cb922a", func := "pantomime/pantomimelaw20.MinorAgain", spec := "minorAgain", unfollowed := true, recurses := true, apart := false, narrowed := true }
def MinorAgainUptoSaid : Prop := minorAgainUptoRow.holds Try.pinned (OpenSpec.upto minorAgainSpec)

/-- 'pantomimelaw19.ReachHeld', WHERE WHAT IT READS IS OF BULK AT MOST 1048576: true; the input reads as it did. -/
def reachHeldUptoRow : OpenClaim := { program := "ytmbaennilhdieaa", sum := "7ae0a4ee1f0e286465e8744e352f7ea9715de565c39d85a199a8be5262cb922a", func := "pantomime/pantomimelaw19.ReachHeld", spec := "reachHeld", unfollowed := true, recurses := true, apart := false, narrowed := true }
def ReachHeldUptoSaid : Prop := reachHeldUptoRow.holds Try.pinned (OpenSpec.upto reachHeldSpec)

/-- 'pantomimelaw19.ReachNothing', WHERE WHAT IT READS IS OF BULK AT MOST 1048576: true; the input reads as it did. -/
def reachNothingUptoRow : OpenClaim := { program := "ytmbaennilhdieaa", sum := "7ae0a4ee1f0e286465e8744e352f7ea9715de565c39d85a199a8be5262cb922a", func := "pantomime/pantomimelaw19.ReachNothing", spec := "reachNothing", unfollowed := true, recurses := true, apart := false, narrowed := true }
def ReachNothingUptoSaid : Prop := reachNothingUptoRow.holds Try.pinned (OpenSpec.upto reachNothingSpec)

/-- 'pantomimelaw22.MajorPlaces', WHERE WHAT IT READS IS OF BULK AT MOST 1048576: true; the input reads as it did. -/
def majorPlacesUptoRow : OpenClaim := { program := "ytmbaennilhdieaa", sum := "7ae0a4ee1f0e286465e8744e352f7ea9715de565c39d85a199a8be5262cb922a", func := "pantomime/pantomimelaw22.MajorPlaces", spec := "majorPlaces", unfollowed := true, recurses := true, apart := false, narrowed := true }
def MajorPlacesUptoSaid : Prop := majorPlacesUptoRow.holds Try.pinned (OpenSpec.upto majorPlacesSpec)

end Rows
end Go.Proofs.Ytmbaennilhdieaa
