/-
  No cell of these rows narrows 'for every input' (looked for: loops, veiled, ifaces, maps, wideKeys, modest, calm, conditions, laid).
  DERIVED. THE GIVEN ROWS OF THIS SEAT. 3 by the template 'for every input the law returns true; each argument reads behind the call as it read before'; 0 by the template 'total and deterministic' (their statements: YthhiddkljcacaaaGreatTotals.lean).
  GIVEN WITH THE SEED: the statements are not yours to turn. If you find one false, say at which input.
  Laid BY PROGRAM, IN A SANDBOX (cutbox-rows.mjs): the forced cells as the released guide's own fill.sh prints them over the translation c2683776fda19c47… (all of the seat's roots in one cut). By AI agents, Wed Nov 11 2026. No macro, syntax, notation, axiom, sorry.
-/
import Derived.Test.YthhiddkljcacaaaGreatChecked
import GoSem.Claim
import GoSem.ClaimJoined
import GoSem.ClaimMapViews
import Derived.JoinedTies
import Derived.KernelRfl
namespace Go.Proofs.YthhiddkljcacaaaGreat
/- THE CELL 'sum', in the pinned program and in every row, IS THE sha256 OF THE DUMP (.gsa) THAT YthhiddkljcacaaaGreatProg.lean LOADS. Nothing in Lean hashes anything: it is a label: what it is worth is what the hold of that sum in a sandbox is worth. -/
noncomputable def Tryz.pinned : Pinned := { name := "ythhiddkljcacaaagreat", sum := "c2683776fda19c4733fc67857ad5e2d6f04433afac42171b1cd9aac3a9433271", checked := Tryz.checked }
namespace Rows
def none {H : Type} : Left H := { results := [], args := [] }

/-- 'pantomimelaw32.ObjectShares': WHATEVER THE INPUT: true; the input reads as it did. -/
def objectSharesSpec : ChangeSpec := { name := "objectShares", fn := fun _ => fun
  | [d] => { results := [.lit (.bool true)], args := [d] }
  | _ => none }
def objectSharesRow : OpenClaim := { program := "ythhiddkljcacaaagreat", sum := "c2683776fda19c4733fc67857ad5e2d6f04433afac42171b1cd9aac3a9433271", func := "pantomime/pantomimelaw32.ObjectShares", spec := "objectShares", unfollowed := true, recurses := true, plainKeys := false, apart := false }
def ObjectSharesSaid : Prop := objectSharesRow.holds Tryz.pinned (OpenSpec.ofChange objectSharesSpec)

/-- ITS FALSE NEIGHBOUR: 'it returns false'. Refute it at one input. -/
def objectSharesWrong : ChangeSpec := { name := "objectShares", fn := fun _ => fun
  | [d] => { results := [.lit (.bool false)], args := [d] }
  | _ => none }
def ObjectSharesWrongFalsely : Prop := objectSharesRow.holds Tryz.pinned (OpenSpec.ofChange objectSharesWrong)

/-- 'pantomimelaw32.ObjectEpoch': WHATEVER THE INPUT: true; the input reads as it did. -/
def objectEpochSpec : ChangeSpec := { name := "objectEpoch", fn := fun _ => fun
  | [d1, d2] => { results := [.lit (.bool true)], args := [d1, d2] }
  | _ => none }
def objectEpochRow : OpenClaim := { program := "ythhiddkljcacaaagreat", sum := "c2683776fda19c4733fc67857ad5e2d6f04433afac42171b1cd9aac3a9433271", func := "pantomime/pantomimelaw32.ObjectEpoch", spec := "objectEpoch", unfollowed := true, recurses := true, plainKeys := false, apart := false }
def ObjectEpochSaid : Prop := objectEpochRow.holds Tryz.pinned (OpenSpec.ofChange objectEpochSpec)

/-- ITS FALSE NEIGHBOUR: 'it returns false'. Refute it at one input. -/
def objectEpochWrong : ChangeSpec := { name := "objectEpoch", fn := fun _ => fun
  | [d1, d2] => { results := [.lit (.bool false)], args := [d1, d2] }
  | _ => none }
def ObjectEpochWrongFalsely : Prop := objectEpochRow.holds Tryz.pinned (OpenSpec.ofChange objectEpochWrong)

/-- 'pantomimelaw32.ObjectRows': WHATEVER THE INPUT: true; the input reads as it did. -/
def objectRowsSpec : ChangeSpec := { name := "objectRows", fn := fun _ => fun
  | [d1, d2] => { results := [.lit (.bool true)], args := [d1, d2] }
  | _ => none }
def objectRowsRow : OpenClaim := { program := "ythhiddkljcacaaagreat", sum := "c2683776fda19c4733fc67857ad5e2d6f04433afac42171b1cd9aac3a9433271", func := "pantomime/pantomimelaw32.ObjectRows", spec := "objectRows", unfollowed := true, recurses := true, plainKeys := false, apart := false }
def ObjectRowsSaid : Prop := objectRowsRow.holds Tryz.pinned (OpenSpec.ofChange objectRowsSpec)

/-- ITS FALSE NEIGHBOUR: 'it returns false'. Refute it at one input. -/
def objectRowsWrong : ChangeSpec := { name := "objectRows", fn := fun _ => fun
  | [d1, d2] => { results := [.lit (.bool false)], args := [d1, d2] }
  | _ => none }
def ObjectRowsWrongFalsely : Prop := objectRowsRow.holds Tryz.pinned (OpenSpec.ofChange objectRowsWrong)

/- THE SECOND FORM. 'bulk': how many values and letters a reading holds, each counted each time it is reached (what is shared counts as often as it is met; a slice's spare places count too). A statement '..UptoSaid' is the law's where the arguments, and the package variables that the reading takes, are together of bulk at most 1048576: NARROWER than '..Said'. Prove '..Said' where nothing that the law and all that it calls make is longer than what came in: it says more and counts as full. Else prove '..UptoSaid'. A law counts once. -/
mutual
def uptoBulk {H : Type} : DataW H → Nat
  | .lit (.string bytes) => bytes.length + 1
  | .lit _ => 1
  | .nil => 1
  | .ptr d => uptoBulk d + 1
  | .slice elems spare => uptoBulkAll elems + uptoBulkAll spare + 1
  | .agg parts => uptoBulkAll parts + 1
  | .iface _ d => uptoBulk d + 1
  | .map entries => uptoBulkEntries entries + 1
  | .held _ => 1
def uptoBulkAll {H : Type} : List (DataW H) → Nat
  | [] => 0
  | d :: r => uptoBulk d + uptoBulkAll r
def uptoBulkEntries {H : Type} : List (Lit × DataW H) → Nat
  | [] => 0
  | x :: r => uptoBulkEntry x + uptoBulkEntries r
def uptoBulkEntry {H : Type} : Lit × DataW H → Nat
  | (.string bytes, d) => bytes.length + uptoBulk d + 1
  | (_, d) => uptoBulk d + 1
 end
def uptoSmall : (H : Type) → List (DataW H) → Bool := fun _ ds => decide (uptoBulkAll ds ≤ 1048576)
def OpenSpec.upto (s : _root_.Go.ChangeSpec) : _root_.Go.OpenSpec := { _root_.Go.OpenSpec.ofChange s with cond := some uptoSmall }

/-- 'pantomimelaw32.ObjectShares', WHERE WHAT IT READS IS OF BULK AT MOST 1048576: true; the input reads as it did. -/
def objectSharesUptoRow : OpenClaim := { program := "ythhiddkljcacaaagreat", sum := "c2683776fda19c4733fc67857ad5e2d6f04433afac42171b1cd9aac3a9433271", func := "pantomime/pantomimelaw32.ObjectShares", spec := "objectShares", unfollowed := true, recurses := true, plainKeys := false, apart := false, narrowed := true }
def ObjectSharesUptoSaid : Prop := objectSharesUptoRow.holds Tryz.pinned (OpenSpec.upto objectSharesSpec)

/-- 'pantomimelaw32.ObjectEpoch', WHERE WHAT IT READS IS OF BULK AT MOST 1048576: true; the input reads as it did. -/
def objectEpochUptoRow : OpenClaim := { program := "ythhiddkljcacaaagreat", sum := "c2683776fda19c4733fc67857ad5e2d6f04433afac42171b1cd9aac3a9433271", func := "pantomime/pantomimelaw32.ObjectEpoch", spec := "objectEpoch", unfollowed := true, recurses := true, plainKeys := false, apart := false, narrowed := true }
def ObjectEpochUptoSaid : Prop := objectEpochUptoRow.holds Tryz.pinned (OpenSpec.upto objectEpochSpec)

/-- 'pantomimelaw32.ObjectRows', WHERE WHAT IT READS IS OF BULK AT MOST 1048576: true; the input reads as it did. -/
def objectRowsUptoRow : OpenClaim := { program := "ythhiddkljcacaaagreat", sum := "c2683776fda19c4733fc67857ad5e2d6f04433afac42171b1cd9aac3a9433271", func := "pantomime/pantomimelaw32.ObjectRows", spec := "objectRows", unfollowed := true, recurses := true, plainKeys := false, apart := false, narrowed := true }
def ObjectRowsUptoSaid : Prop := objectRowsUptoRow.holds Tryz.pinned (OpenSpec.upto objectRowsSpec)

end Rows
end Go.Proofs.YthhiddkljcacaaaGreat
