/-
  No cell of these rows narrows 'for every input' (looked for: loops, veiled, ifaces, maps, wideKeys, modest, calm, conditions, laid).
  DERIVED. THE GIVEN ROWS OF THIS SEAT. 6 by the template 'for every input the law returns true; each argument reads behind the call as it read before'; 0 by the template 'total and deterministic' (their statements: YtancgbfkpoeffaaTotals.lean).
  GIVEN WITH THE SEED: the statements are not yours to turn. If you find one false, say at which input.
  Laid BY PROGRAM, IN A SANDBOX (cutbox-rows.mjs): the forced cells as the released guide's own fill.sh prints them over the translation a07f1b8f1d29e1f0… (all of the seat's roots in one cut). By AI agents, Wed Nov 11 2026. No macro, syntax, notation, axiom, sorry.
-/
import Derived.Test.YtancgbfkpoeffaaChecked
import GoSem.Claim
import GoSem.ClaimJoined
import GoSem.ClaimMapViews
import Derived.JoinedTies
import Derived.KernelRfl
namespace Go.Proofs.Ytancgbfkpoeffaa
/- THE CELL 'sum', in the pinned program and in every row, IS THE sha256 OF THE DUMP (.gsa) THAT YtancgbfkpoeffaaProg.lean LOADS. Nothing in Lean hashes anything: it is a label: what it is worth is what the hold of that sum in a sandbox is worth. -/
noncomputable def Try.pinned : Pinned := { name := "ytancgbfkpoeffaa", sum := "a07f1b8f1d29e1f09416ae72360511c9c4f79dd99b7298798dbfee5357b0990d", checked := Try.checked }
namespace Rows
def none {H : Type} : Left H := { results := [], args := [] }

/-- 'pantomimelaw21.RemsetOrder': WHATEVER THE INPUT: true; the input reads as it did. -/
def remsetOrderSpec : ChangeSpec := { name := "remsetOrder", fn := fun _ => fun
  | [d] => { results := [.lit (.bool true)], args := [d] }
  | _ => none }
def remsetOrderRow : OpenClaim := { program := "ytancgbfkpoeffaa", sum := "a07f1b8f1d29e1f09416ae72360511c9c4f79dd99b7298798dbfee5357b0990d", func := "pantomime/pantomimelaw21.RemsetOrder", spec := "remsetOrder", unfollowed := true, recurses := true, apart := false }
def RemsetOrderSaid : Prop := remsetOrderRow.holds Try.pinned (OpenSpec.ofChange remsetOrderSpec)

/-- ITS FALSE NEIGHBOUR: 'it returns false'. Refute it at one input. -/
def remsetOrderWrong : ChangeSpec := { name := "remsetOrder", fn := fun _ => fun
  | [d] => { results := [.lit (.bool false)], args := [d] }
  | _ => none }
def RemsetOrderWrongFalsely : Prop := remsetOrderRow.holds Try.pinned (OpenSpec.ofChange remsetOrderWrong)

/-- 'pantomimelaw21.RemsetNotes': WHATEVER THE INPUT: true; the input reads as it did. -/
def remsetNotesSpec : ChangeSpec := { name := "remsetNotes", fn := fun _ => fun
  | [d] => { results := [.lit (.bool true)], args := [d] }
  | _ => none }
def remsetNotesRow : OpenClaim := { program := "ytancgbfkpoeffaa", sum := "a07f1b8f1d29e1f09416ae72360511c9c4f79dd99b7298798dbfee5357b0990d", func := "pantomime/pantomimelaw21.RemsetNotes", spec := "remsetNotes", unfollowed := true, recurses := true, apart := false }
def RemsetNotesSaid : Prop := remsetNotesRow.holds Try.pinned (OpenSpec.ofChange remsetNotesSpec)

/-- ITS FALSE NEIGHBOUR: 'it returns false'. Refute it at one input. -/
def remsetNotesWrong : ChangeSpec := { name := "remsetNotes", fn := fun _ => fun
  | [d] => { results := [.lit (.bool false)], args := [d] }
  | _ => none }
def RemsetNotesWrongFalsely : Prop := remsetNotesRow.holds Try.pinned (OpenSpec.ofChange remsetNotesWrong)

/-- 'pantomimelaw21.RemsetNobody': WHATEVER THE INPUT: true; the input reads as it did. -/
def remsetNobodySpec : ChangeSpec := { name := "remsetNobody", fn := fun _ => fun
  | [d1, d2] => { results := [.lit (.bool true)], args := [d1, d2] }
  | _ => none }
def remsetNobodyRow : OpenClaim := { program := "ytancgbfkpoeffaa", sum := "a07f1b8f1d29e1f09416ae72360511c9c4f79dd99b7298798dbfee5357b0990d", func := "pantomime/pantomimelaw21.RemsetNobody", spec := "remsetNobody", unfollowed := true, recurses := true, apart := false }
def RemsetNobodySaid : Prop := remsetNobodyRow.holds Try.pinned (OpenSpec.ofChange remsetNobodySpec)

/-- ITS FALSE NEIGHBOUR: 'it returns false'. Refute it at one input. -/
def remsetNobodyWrong : ChangeSpec := { name := "remsetNobody", fn := fun _ => fun
  | [d1, d2] => { results := [.lit (.bool false)], args := [d1, d2] }
  | _ => none }
def RemsetNobodyWrongFalsely : Prop := remsetNobodyRow.holds Try.pinned (OpenSpec.ofChange remsetNobodyWrong)

/-- 'pantomimelaw21.RemsetRenews': WHATEVER THE INPUT: true; the input reads as it did. -/
def remsetRenewsSpec : ChangeSpec := { name := "remsetRenews", fn := fun _ => fun
  | [d1, d2, d3, d4] => { results := [.lit (.bool true)], args := [d1, d2, d3, d4] }
  | _ => none }
def remsetRenewsRow : OpenClaim := { program := "ytancgbfkpoeffaa", sum := "a07f1b8f1d29e1f09416ae72360511c9c4f79dd99b7298798dbfee5357b0990d", func := "pantomime/pantomimelaw21.RemsetRenews", spec := "remsetRenews", unfollowed := true, recurses := true, apart := false }
def RemsetRenewsSaid : Prop := remsetRenewsRow.holds Try.pinned (OpenSpec.ofChange remsetRenewsSpec)

/-- ITS FALSE NEIGHBOUR: 'it returns false'. Refute it at one input. -/
def remsetRenewsWrong : ChangeSpec := { name := "remsetRenews", fn := fun _ => fun
  | [d1, d2, d3, d4] => { results := [.lit (.bool false)], args := [d1, d2, d3, d4] }
  | _ => none }
def RemsetRenewsWrongFalsely : Prop := remsetRenewsRow.holds Try.pinned (OpenSpec.ofChange remsetRenewsWrong)

/-- 'pantomimelaw21.RemsetKeeps': WHATEVER THE INPUT: true; the input reads as it did. -/
def remsetKeepsSpec : ChangeSpec := { name := "remsetKeeps", fn := fun _ => fun
  | [d1, d2] => { results := [.lit (.bool true)], args := [d1, d2] }
  | _ => none }
def remsetKeepsRow : OpenClaim := { program := "ytancgbfkpoeffaa", sum := "a07f1b8f1d29e1f09416ae72360511c9c4f79dd99b7298798dbfee5357b0990d", func := "pantomime/pantomimelaw21.RemsetKeeps", spec := "remsetKeeps", unfollowed := true, recurses := true, apart := false }
def RemsetKeepsSaid : Prop := remsetKeepsRow.holds Try.pinned (OpenSpec.ofChange remsetKeepsSpec)

/-- ITS FALSE NEIGHBOUR: 'it returns false'. Refute it at one input. -/
def remsetKeepsWrong : ChangeSpec := { name := "remsetKeeps", fn := fun _ => fun
  | [d1, d2] => { results := [.lit (.bool false)], args := [d1, d2] }
  | _ => none }
def RemsetKeepsWrongFalsely : Prop := remsetKeepsRow.holds Try.pinned (OpenSpec.ofChange remsetKeepsWrong)

/-- 'pantomimelaw21.RemsetWide': WHATEVER THE INPUT: true; the input reads as it did. -/
def remsetWideSpec : ChangeSpec := { name := "remsetWide", fn := fun _ => fun
  | [d1, d2, d3] => { results := [.lit (.bool true)], args := [d1, d2, d3] }
  | _ => none }
def remsetWideRow : OpenClaim := { program := "ytancgbfkpoeffaa", sum := "a07f1b8f1d29e1f09416ae72360511c9c4f79dd99b7298798dbfee5357b0990d", func := "pantomime/pantomimelaw21.RemsetWide", spec := "remsetWide", unfollowed := true, recurses := true, apart := false }
def RemsetWideSaid : Prop := remsetWideRow.holds Try.pinned (OpenSpec.ofChange remsetWideSpec)

/-- ITS FALSE NEIGHBOUR: 'it returns false'. Refute it at one input. -/
def remsetWideWrong : ChangeSpec := { name := "remsetWide", fn := fun _ => fun
  | [d1, d2, d3] => { results := [.lit (.bool false)], args := [d1, d2, d3] }
  | _ => none }
def RemsetWideWrongFalsely : Prop := remsetWideRow.holds Try.pinned (OpenSpec.ofChange remsetWideWrong)

/- THE SECOND FORM. 'bulk': how many values and letters a reading holds, each counted each time it is reached (what is shared counts as often as it is met; a slice's spare places count too). A statement '..UptoSaid' is the law's where the arguments, and the package variables that the reading takes, are together of bulk at most 1048576: NARROWER than '..Said'. Prove '..Said' where nothing that the law and all that it calls make is longer than what came in: it says more and counts as full. Else prove '..UptoSaid'. A law counts once. -/
mutual
def uptoBulk {H : Type} : DataW H → Nat
  | .lit (.string bytes) => bytes.length + 1
  | .lit _ => 1
  | .nil => 1
  | .ptr d => uptoBulk d + 1
  | .slice elems spare => uptoBulkAll elems + uptoBulkAll spare + 1
  | .agg parts => uptoBulkAll parts + 1
  | .iface _ d => uptoBulk d + 1
  | .map entries => uptoBulkEntries entries + 1
  | .held _ => 1
def uptoBulkAll {H : Type} : List (DataW H) → Nat
  | [] => 0
  | d :: r => uptoBulk d + uptoBulkAll r
def uptoBulkEntries {H : Type} : List (Lit × DataW H) → Nat
  | [] => 0
  | x :: r => uptoBulkEntry x + uptoBulkEntries r
def uptoBulkEntry {H : Type} : Lit × DataW H → Nat
  | (.string bytes, d) => bytes.length + uptoBulk d + 1
  | (_, d) => uptoBulk d + 1
 end
def uptoSmall : (H : Type) → List (DataW H) → Bool := fun _ ds => decide (uptoBulkAll ds ≤ 1048576)
def OpenSpec.upto (s : _root_.Go.ChangeSpec) : _root_.Go.OpenSpec := { _root_.Go.OpenSpec.ofChange s with cond := some uptoSmall }

/-- 'pantomimelaw21.RemsetOrder', WHERE WHAT IT READS IS OF BULK AT MOST 1048576: true; the input reads as it did. -/
def remsetOrderUptoRow : OpenClaim := { program := "ytancgbfkpoeffaa", sum := "a07f1b8f1d29e1f09416ae72360511c9c4f79dd99b7298798dbfee5357b0990d", func := "pantomime/pantomimelaw21.RemsetOrder", spec := "remsetOrder", unfollowed := true, recurses := true, apart := false, narrowed := true }
def RemsetOrderUptoSaid : Prop := remsetOrderUptoRow.holds Try.pinned (OpenSpec.upto remsetOrderSpec)

/-- 'pantomimelaw21.RemsetNotes', WHERE WHAT IT READS IS OF BULK AT MOST 1048576: true; the input reads as it did. -/
def remsetNotesUptoRow : OpenClaim := { program := "ytancgbfkpoeffaa", sum := "a07f1b8f1d29e1f09416ae72360511c9c4f79dd99b7298798dbfee5357b0990d", func := "pantomime/pantomimelaw21.RemsetNotes", spec := "remsetNotes", unfollowed := true, recurses := true, apart := false, narrowed := true }
def RemsetNotesUptoSaid : Prop := remsetNotesUptoRow.holds Try.pinned (OpenSpec.upto remsetNotesSpec)

/-- 'pantomimelaw21.RemsetNobody', WHERE WHAT IT READS IS OF BULK AT MOST 1048576: true; the input reads as it did. -/
def remsetNobodyUptoRow : OpenClaim := { program := "ytancgbfkpoeffaa", sum := "a07f1b8f1d29e1f09416ae72360511c9c4f79dd99b7298798dbfee5357b0990d", func := "pantomime/pantomimelaw21.RemsetNobody", spec := "remsetNobody", unfollowed := true, recurses := true, apart := false, narrowed := true }
def RemsetNobodyUptoSaid : Prop := remsetNobodyUptoRow.holds Try.pinned (OpenSpec.upto remsetNobodySpec)

/-- 'pantomimelaw21.RemsetRenews', WHERE WHAT IT READS IS OF BULK AT MOST 1048576: true; the input reads as it did. -/
def remsetRenewsUptoRow : OpenClaim := { program := "ytancgbfkpoeffaa", sum := "a07f1b8f1d29e1f09416ae72360511c9c4f79dd99b7298798dbfee5357b0990d", func := "pantomime/pantomimelaw21.RemsetRenews", spec := "remsetRenews", unfollowed := true, recurses := true, apart := false, narrowed := true }
def RemsetRenewsUptoSaid : Prop := remsetRenewsUptoRow.holds Try.pinned (OpenSpec.upto remsetRenewsSpec)

/-- 'pantomimelaw21.RemsetKeeps', WHERE WHAT IT READS IS OF BULK AT MOST 1048576: true; the input reads as it did. -/
def remsetKeepsUptoRow : OpenClaim := { program := "ytancgbfkpoeffaa", sum := "a07f1b8f1d29e1f09416ae72360511c9c4f79dd99b7298798dbfee5357b0990d", func := "pantomime/pantomimelaw21.RemsetKeeps", spec := "remsetKeeps", unfollowed := true, recurses := true, apart := false, narrowed := true }
def RemsetKeepsUptoSaid : Prop := remsetKeepsUptoRow.holds Try.pinned (OpenSpec.upto remsetKeepsSpec)

/-- 'pantomimelaw21.RemsetWide', WHERE WHAT IT READS IS OF BULK AT MOST 1048576: true; the input reads as it did. -/
def remsetWideUptoRow : OpenClaim := { program := "ytancgbfkpoeffaa", sum := "a07f1b8f1d29e1f09416ae72360511c9c4f79dd99b7298798dbfee5357b0990d", func := "pantomime/pantomimelaw21.RemsetWide", spec := "remsetWide", unfollowed := true, recurses := true, apart := false, narrowed := true }
def RemsetWideUptoSaid : Prop := remsetWideUptoRow.holds Try.pinned (OpenSpec.upto remsetWideSpec)

end Rows
end Go.Proofs.Ytancgbfkpoeffaa
