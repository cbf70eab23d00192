/-
  No cell of these rows narrows 'for every input' (looked for: loops, veiled, ifaces, maps, wideKeys, modest, calm, conditions, laid).
  DERIVED. THE GIVEN ROWS OF THIS SEAT. 3 by the template 'for every input the law returns true; each argument reads behind the call as it read before'; 0 by the template 'total and deterministic' (their statements: YtmiecljgcbfklaaTotals.lean).
  GIVEN WITH THE SEED: the statements are not yours to turn. If you find one false, say at which input.
  Laid BY PROGRAM, IN A SANDBOX (cutbox-rows.mjs): the forced cells as the released guide's own fill.sh prints them over the translation 23261de318b31ca2… (all of the seat's roots in one cut). By AI agents, Wed Nov 11 2026. No macro, syntax, notation, axiom, sorry.
-/
import Derived.Test.YtmiecljgcbfklaaChecked
import GoSem.Claim
import GoSem.ClaimJoined
import GoSem.ClaimMapViews
import Derived.JoinedTies
import Derived.KernelRfl
namespace Go.Proofs.Ytmiecljgcbfklaa
/- THE CELL 'sum', in the pinned program and in every row, IS THE sha256 OF THE DUMP (.gsa) THAT YtmiecljgcbfklaaProg.lean LOADS. Nothing in Lean hashes anything: it is a label: what it is worth is what the hold of that sum in a sandbox is worth. -/
noncomputable def Try.pinned : Pinned := { name := "ytmiecljgcbfklaa", sum := "23261de318b31ca2c5027feb9a51c5a506cd3ba91b165e9a9b95cf03c0e230b2", checked := Try.checked }
namespace Rows
def none {H : Type} : Left H := { results := [], args := [] }

/-- 'pantomimelaw27.ShapeAgain': WHATEVER THE INPUT: true; the input reads as it did. -/
def shapeAgainSpec : ChangeSpec := { name := "shapeAgain", fn := fun _ => fun
  | [d] => { results := [.lit (.bool true)], args := [d] }
  | _ => none }
def shapeAgainRow : OpenClaim := { program := "ytmiecljgcbfklaa", sum := "23261de318b31ca2c5027feb9a51c5a506cd3ba91b165e9a9b95cf03c0e230b2", func := "pantomime/pantomimelaw27.ShapeAgain", spec := "shapeAgain", plainKeys := false, apart := false }
def ShapeAgainSaid : Prop := shapeAgainRow.holds Try.pinned (OpenSpec.ofChange shapeAgainSpec)

/-- ITS FALSE NEIGHBOUR: 'it returns false'. Refute it at one input. -/
def shapeAgainWrong : ChangeSpec := { name := "shapeAgain", fn := fun _ => fun
  | [d] => { results := [.lit (.bool false)], args := [d] }
  | _ => none }
def ShapeAgainWrongFalsely : Prop := shapeAgainRow.holds Try.pinned (OpenSpec.ofChange shapeAgainWrong)

/-- 'pantomimelaw27.ShapeFull': WHATEVER THE INPUT: true; the input reads as it did. -/
def shapeFullSpec : ChangeSpec := { name := "shapeFull", fn := fun _ => fun
  | [d1, d2] => { results := [.lit (.bool true)], args := [d1, d2] }
  | _ => none }
def shapeFullRow : OpenClaim := { program := "ytmiecljgcbfklaa", sum := "23261de318b31ca2c5027feb9a51c5a506cd3ba91b165e9a9b95cf03c0e230b2", func := "pantomime/pantomimelaw27.ShapeFull", spec := "shapeFull", plainKeys := false, apart := false }
def ShapeFullSaid : Prop := shapeFullRow.holds Try.pinned (OpenSpec.ofChange shapeFullSpec)

/-- ITS FALSE NEIGHBOUR: 'it returns false'. Refute it at one input. -/
def shapeFullWrong : ChangeSpec := { name := "shapeFull", fn := fun _ => fun
  | [d1, d2] => { results := [.lit (.bool false)], args := [d1, d2] }
  | _ => none }
def ShapeFullWrongFalsely : Prop := shapeFullRow.holds Try.pinned (OpenSpec.ofChange shapeFullWrong)

/-- 'pantomimelaw27.ShapeNone': WHATEVER THE INPUT: true; the input reads as it did. -/
def shapeNoneSpec : ChangeSpec := { name := "shapeNone", fn := fun _ => fun
  | [d] => { results := [.lit (.bool true)], args := [d] }
  | _ => none }
def shapeNoneRow : OpenClaim := { program := "ytmiecljgcbfklaa", sum := "23261de318b31ca2c5027feb9a51c5a506cd3ba91b165e9a9b95cf03c0e230b2", func := "pantomime/pantomimelaw27.ShapeNone", spec := "shapeNone", plainKeys := false, apart := false }
def ShapeNoneSaid : Prop := shapeNoneRow.holds Try.pinned (OpenSpec.ofChange shapeNoneSpec)

/-- ITS FALSE NEIGHBOUR: 'it returns false'. Refute it at one input. -/
def shapeNoneWrong : ChangeSpec := { name := "shapeNone", fn := fun _ => fun
  | [d] => { results := [.lit (.bool false)], args := [d] }
  | _ => none }
def ShapeNoneWrongFalsely : Prop := shapeNoneRow.holds Try.pinned (OpenSpec.ofChange shapeNoneWrong)

/- THE SECOND FORM. 'bulk': how many values and letters a reading holds, each counted each time it is reached (what is shared counts as often as it is met; a slice's spare places count too). A statement '..UptoSaid' is the law's where the arguments, and the package variables that the reading takes, are together of bulk at most 1048576: NARROWER than '..Said'. Prove '..Said' where nothing that the law and all that it calls make is longer than what came in: it says more and counts as full. Else prove '..UptoSaid'. A law counts once. -/
mutual
def uptoBulk {H : Type} : DataW H → Nat
  | .lit (.string bytes) => bytes.length + 1
  | .lit _ => 1
  | .nil => 1
  | .ptr d => uptoBulk d + 1
  | .slice elems spare => uptoBulkAll elems + uptoBulkAll spare + 1
  | .agg parts => uptoBulkAll parts + 1
  | .iface _ d => uptoBulk d + 1
  | .map entries => uptoBulkEntries entries + 1
  | .held _ => 1
def uptoBulkAll {H : Type} : List (DataW H) → Nat
  | [] => 0
  | d :: r => uptoBulk d + uptoBulkAll r
def uptoBulkEntries {H : Type} : List (Lit × DataW H) → Nat
  | [] => 0
  | x :: r => uptoBulkEntry x + uptoBulkEntries r
def uptoBulkEntry {H : Type} : Lit × DataW H → Nat
  | (.string bytes, d) => bytes.length + uptoBulk d + 1
  | (_, d) => uptoBulk d + 1
 end
def uptoSmall : (H : Type) → List (DataW H) → Bool := fun _ ds => decide (uptoBulkAll ds ≤ 1048576)
def OpenSpec.upto (s : _root_.Go.ChangeSpec) : _root_.Go.OpenSpec := { _root_.Go.OpenSpec.ofChange s with cond := some uptoSmall }

/-- 'pantomimelaw27.ShapeAgain', WHERE WHAT IT READS IS OF BULK AT MOST 1048576: true; the input reads as it did. -/
def shapeAgainUptoRow : OpenClaim := { program := "ytmiecljgcbfklaa", sum := "23261de318b31ca2c5027feb9a51c5a506cd3ba91b165e9a9b95cf03c0e230b2", func := "pantomime/pantomimelaw27.ShapeAgain", spec := "shapeAgain", plainKeys := false, apart := false, narrowed := true }
def ShapeAgainUptoSaid : Prop := shapeAgainUptoRow.holds Try.pinned (OpenSpec.upto shapeAgainSpec)

/-- 'pantomimelaw27.ShapeFull', WHERE WHAT IT READS IS OF BULK AT MOST 1048576: true; the input reads as it did. -/
def shapeFullUptoRow : OpenClaim := { program := "ytmiecljgcbfklaa", sum := "23261de318b31ca2c5027feb9a51c5a506cd3ba91b165e9a9b95cf03c0e230b2", func := "pantomime/pantomimelaw27.ShapeFull", spec := "shapeFull", plainKeys := false, apart := false, narrowed := true }
def ShapeFullUptoSaid : Prop := shapeFullUptoRow.holds Try.pinned (OpenSpec.upto shapeFullSpec)

/-- 'pantomimelaw27.ShapeNone', WHERE WHAT IT READS IS OF BULK AT MOST 1048576: true; the input reads as it did. -/
def shapeNoneUptoRow : OpenClaim := { program := "ytmiecljgcbfklaa", sum := "23261de318b31ca2c5027feb9a51c5a506cd3ba91b165e9a9b95cf03c0e230b2", func := "pantomime/pantomimelaw27.ShapeNone", spec := "shapeNone", plainKeys := false, apart := false, narrowed := true }
def ShapeNoneUptoSaid : Prop := shapeNoneUptoRow.holds Try.pinned (OpenSpec.upto shapeNoneSpec)

end Rows
end Go.Proofs.Ytmiecljgcbfklaa
