/-
  NARROWER THAN 'FOR EVERY INPUT', by the rows' own cells (each row's printed sentence says how): ArrayLength: laid · ArrayOrder: laid · ArrayPlays: laid.
  DERIVED. THE GIVEN ROWS OF THIS SEAT. 3 by the template 'for every input the law returns true; each argument reads behind the call as it read before'; 0 by the template 'total and deterministic' (their statements: YtmcifcmlojonnaaGreatDoorTotals.lean).
  GIVEN WITH THE SEED: the statements are not yours to turn. If you find one false, say at which input.
  Laid BY PROGRAM, IN A SANDBOX (cutbox-rows.mjs): the forced cells as the released guide's own fill.sh prints them over the translation 06fd7aa444d1de24… (all of the seat's roots in one cut). By AI agents, Wed Nov 11 2026. No macro, syntax, notation, axiom, sorry.
-/
import Derived.Test.YtmcifcmlojonnaaGreatDoorChecked
import GoSem.Claim
import GoSem.ClaimJoined
import GoSem.ClaimMapViews
import Derived.JoinedTies
import Derived.KernelRfl
namespace Go.Proofs.YtmcifcmlojonnaaGreatDoor
/- THE CELL 'sum', in the pinned program and in every row, IS THE sha256 OF THE DUMP (.gsa) THAT YtmcifcmlojonnaaGreatDoorProg.lean LOADS. Nothing in Lean hashes anything: it is a label: what it is worth is what the hold of that sum in a sandbox is worth. -/
noncomputable def Tryz.pinned : Pinned := { name := "ytmcifcmlojonnaagreatdoor", sum := "06fd7aa444d1de24547197bbd67223f2065982bbf84c74f7780960b4be21de09", checked := Tryz.checked }
namespace Rows
def none {H : Type} : Left H := { results := [], args := [] }

/- WHAT THE LISTED PACKAGE-LEVEL VARIABLES READ AS WHEN THE CALL BEGINS. Each datum BY PROGRAM (the guide's laid-datum.mjs) off the statement by which the dump's own 'gosem.cut.vars' lays the variable. In a bare row this is a premise. The card (YtmcifcmlojonnaaGreatDoorCards.lean) ties it to the program's text. -/
def laid_pantomime_array_hole {H : Type} : DataW H := .agg [.lit (.int .i64 8), .lit (.int .i64 0), .lit (.string [])]

/-- 'pantomimelaw33.ArrayLength': WHATEVER THE INPUT: true; the input reads as it did. -/
def arrayLengthSpec : ChangeSpec := { name := "arrayLength", fn := fun _ => fun
  | [d1, d2, d3] => { results := [.lit (.bool true)], args := [d1, d2, d3] }
  | _ => none }
def arrayLengthRow : OpenClaim := { program := "ytmcifcmlojonnaagreatdoor", sum := "06fd7aa444d1de24547197bbd67223f2065982bbf84c74f7780960b4be21de09", func := "pantomime/pantomimelaw33.ArrayLength", spec := "arrayLength", unfollowed := true, recurses := true, named := ["pantomime/array.hole"], plainKeys := false, apart := false, laid := [("pantomime/array.hole", laid_pantomime_array_hole)] }
def ArrayLengthSaid : Prop := arrayLengthRow.holds Tryz.pinned (OpenSpec.ofChange arrayLengthSpec)

/-- ITS FALSE NEIGHBOUR: 'it returns false'. Refute it at one input. -/
def arrayLengthWrong : ChangeSpec := { name := "arrayLength", fn := fun _ => fun
  | [d1, d2, d3] => { results := [.lit (.bool false)], args := [d1, d2, d3] }
  | _ => none }
def ArrayLengthWrongFalsely : Prop := arrayLengthRow.holds Tryz.pinned (OpenSpec.ofChange arrayLengthWrong)

/-- 'pantomimelaw33.ArrayOrder': WHATEVER THE INPUT: true; the input reads as it did. -/
def arrayOrderSpec : ChangeSpec := { name := "arrayOrder", fn := fun _ => fun
  | [d1, d2] => { results := [.lit (.bool true)], args := [d1, d2] }
  | _ => none }
def arrayOrderRow : OpenClaim := { program := "ytmcifcmlojonnaagreatdoor", sum := "06fd7aa444d1de24547197bbd67223f2065982bbf84c74f7780960b4be21de09", func := "pantomime/pantomimelaw33.ArrayOrder", spec := "arrayOrder", unfollowed := true, recurses := true, named := ["pantomime/array.hole"], plainKeys := false, apart := false, laid := [("pantomime/array.hole", laid_pantomime_array_hole)] }
def ArrayOrderSaid : Prop := arrayOrderRow.holds Tryz.pinned (OpenSpec.ofChange arrayOrderSpec)

/-- ITS FALSE NEIGHBOUR: 'it returns false'. Refute it at one input. -/
def arrayOrderWrong : ChangeSpec := { name := "arrayOrder", fn := fun _ => fun
  | [d1, d2] => { results := [.lit (.bool false)], args := [d1, d2] }
  | _ => none }
def ArrayOrderWrongFalsely : Prop := arrayOrderRow.holds Tryz.pinned (OpenSpec.ofChange arrayOrderWrong)

/-- 'pantomimelaw33.ArrayPlays': WHATEVER THE INPUT: true; the input reads as it did. -/
def arrayPlaysSpec : ChangeSpec := { name := "arrayPlays", fn := fun _ => fun
  | [d1, d2] => { results := [.lit (.bool true)], args := [d1, d2] }
  | _ => none }
def arrayPlaysRow : OpenClaim := { program := "ytmcifcmlojonnaagreatdoor", sum := "06fd7aa444d1de24547197bbd67223f2065982bbf84c74f7780960b4be21de09", func := "pantomime/pantomimelaw33.ArrayPlays", spec := "arrayPlays", unfollowed := true, recurses := true, named := ["pantomime/array.hole"], plainKeys := false, apart := false, laid := [("pantomime/array.hole", laid_pantomime_array_hole)] }
def ArrayPlaysSaid : Prop := arrayPlaysRow.holds Tryz.pinned (OpenSpec.ofChange arrayPlaysSpec)

/-- ITS FALSE NEIGHBOUR: 'it returns false'. Refute it at one input. -/
def arrayPlaysWrong : ChangeSpec := { name := "arrayPlays", fn := fun _ => fun
  | [d1, d2] => { results := [.lit (.bool false)], args := [d1, d2] }
  | _ => none }
def ArrayPlaysWrongFalsely : Prop := arrayPlaysRow.holds Tryz.pinned (OpenSpec.ofChange arrayPlaysWrong)

/- THE SECOND FORM. 'bulk': how many values and letters a reading holds, each counted each time it is reached (what is shared counts as often as it is met; a slice's spare places count too). A statement '..UptoSaid' is the law's where the arguments, and the package variables that the reading takes, are together of bulk at most 1048576: NARROWER than '..Said'. Prove '..Said' where nothing that the law and all that it calls make is longer than what came in: it says more and counts as full. Else prove '..UptoSaid'. A law counts once. -/
mutual
def uptoBulk {H : Type} : DataW H → Nat
  | .lit (.string bytes) => bytes.length + 1
  | .lit _ => 1
  | .nil => 1
  | .ptr d => uptoBulk d + 1
  | .slice elems spare => uptoBulkAll elems + uptoBulkAll spare + 1
  | .agg parts => uptoBulkAll parts + 1
  | .iface _ d => uptoBulk d + 1
  | .map entries => uptoBulkEntries entries + 1
  | .held _ => 1
def uptoBulkAll {H : Type} : List (DataW H) → Nat
  | [] => 0
  | d :: r => uptoBulk d + uptoBulkAll r
def uptoBulkEntries {H : Type} : List (Lit × DataW H) → Nat
  | [] => 0
  | x :: r => uptoBulkEntry x + uptoBulkEntries r
def uptoBulkEntry {H : Type} : Lit × DataW H → Nat
  | (.string bytes, d) => bytes.length + uptoBulk d + 1
  | (_, d) => uptoBulk d + 1
 end
def uptoSmall : (H : Type) → List (DataW H) → Bool := fun _ ds => decide (uptoBulkAll ds ≤ 1048576)
def OpenSpec.upto (s : _root_.Go.ChangeSpec) : _root_.Go.OpenSpec := { _root_.Go.OpenSpec.ofChange s with cond := some uptoSmall }

/-- 'pantomimelaw33.ArrayLength', WHERE WHAT IT READS IS OF BULK AT MOST 1048576: true; the input reads as it did. -/
def arrayLengthUptoRow : OpenClaim := { program := "ytmcifcmlojonnaagreatdoor", sum := "06fd7aa444d1de24547197bbd67223f2065982bbf84c74f7780960b4be21de09", func := "pantomime/pantomimelaw33.ArrayLength", spec := "arrayLength", unfollowed := true, recurses := true, named := ["pantomime/array.hole"], plainKeys := false, apart := false, laid := [("pantomime/array.hole", laid_pantomime_array_hole)], narrowed := true }
def ArrayLengthUptoSaid : Prop := arrayLengthUptoRow.holds Tryz.pinned (OpenSpec.upto arrayLengthSpec)

/-- 'pantomimelaw33.ArrayOrder', WHERE WHAT IT READS IS OF BULK AT MOST 1048576: true; the input reads as it did. -/
def arrayOrderUptoRow : OpenClaim := { program := "ytmcifcmlojonnaagreatdoor", sum := "06fd7aa444d1de24547197bbd67223f2065982bbf84c74f7780960b4be21de09", func := "pantomime/pantomimelaw33.ArrayOrder", spec := "arrayOrder", unfollowed := true, recurses := true, named := ["pantomime/array.hole"], plainKeys := false, apart := false, laid := [("pantomime/array.hole", laid_pantomime_array_hole)], narrowed := true }
def ArrayOrderUptoSaid : Prop := arrayOrderUptoRow.holds Tryz.pinned (OpenSpec.upto arrayOrderSpec)

/-- 'pantomimelaw33.ArrayPlays', WHERE WHAT IT READS IS OF BULK AT MOST 1048576: true; the input reads as it did. -/
def arrayPlaysUptoRow : OpenClaim := { program := "ytmcifcmlojonnaagreatdoor", sum := "06fd7aa444d1de24547197bbd67223f2065982bbf84c74f7780960b4be21de09", func := "pantomime/pantomimelaw33.ArrayPlays", spec := "arrayPlays", unfollowed := true, recurses := true, named := ["pantomime/array.hole"], plainKeys := false, apart := false, laid := [("pantomime/array.hole", laid_pantomime_array_hole)], narrowed := true }
def ArrayPlaysUptoSaid : Prop := arrayPlaysUptoRow.holds Tryz.pinned (OpenSpec.upto arrayPlaysSpec)

end Rows
end Go.Proofs.YtmcifcmlojonnaaGreatDoor
