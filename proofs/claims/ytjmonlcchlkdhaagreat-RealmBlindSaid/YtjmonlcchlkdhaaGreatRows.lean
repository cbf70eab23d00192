/-
  No cell of these rows narrows 'for every input' (looked for: loops, veiled, ifaces, maps, wideKeys, modest, calm, conditions, laid).
  DERIVED. THE GIVEN ROWS OF THIS SEAT. 4 by the template 'for every input the law returns true; each argument reads behind the call as it read before'; 0 by the template 'total and deterministic' (their statements: YtjmonlcchlkdhaaGreatTotals.lean).
  GIVEN WITH THE SEED: the statements are not yours to turn. If you find one false, say at which input.
  Laid BY PROGRAM, IN A SANDBOX (cutbox-rows.mjs): the forced cells as the released guide's own fill.sh prints them over the translation c25e47b123184c69… (all of the seat's roots in one cut). By AI agents, Wed Nov 11 2026. No macro, syntax, notation, axiom, sorry.
-/
import Derived.Test.YtjmonlcchlkdhaaGreatChecked
import GoSem.Claim
import GoSem.ClaimJoined
import GoSem.ClaimMapViews
import Derived.JoinedTies
import Derived.KernelRfl
namespace Go.Proofs.YtjmonlcchlkdhaaGreat
/- THE CELL 'sum', in the pinned program and in every row, IS THE sha256 OF THE DUMP (.gsa) THAT YtjmonlcchlkdhaaGreatProg.lean LOADS. Nothing in Lean hashes anything: it is a label: what it is worth is what the hold of that sum in a sandbox is worth. -/
noncomputable def Tryz.pinned : Pinned := { name := "ytjmonlcchlkdhaagreat", sum := "c25e47b123184c69e39f497aaf97cd2aaa2c5962f01193e9e3285591dd165f79", checked := Tryz.checked }
namespace Rows
def none {H : Type} : Left H := { results := [], args := [] }

/-- 'pantomimelaw31.RealmSlots': WHATEVER THE INPUT: true; the input reads as it did. -/
def realmSlotsSpec : ChangeSpec := { name := "realmSlots", fn := fun _ => fun
  | [d1, d2] => { results := [.lit (.bool true)], args := [d1, d2] }
  | _ => none }
def realmSlotsRow : OpenClaim := { program := "ytjmonlcchlkdhaagreat", sum := "c25e47b123184c69e39f497aaf97cd2aaa2c5962f01193e9e3285591dd165f79", func := "pantomime/pantomimelaw31.RealmSlots", spec := "realmSlots", unfollowed := true, recurses := true, plainKeys := false, apart := false }
def RealmSlotsSaid : Prop := realmSlotsRow.holds Tryz.pinned (OpenSpec.ofChange realmSlotsSpec)

/-- ITS FALSE NEIGHBOUR: 'it returns false'. Refute it at one input. -/
def realmSlotsWrong : ChangeSpec := { name := "realmSlots", fn := fun _ => fun
  | [d1, d2] => { results := [.lit (.bool false)], args := [d1, d2] }
  | _ => none }
def RealmSlotsWrongFalsely : Prop := realmSlotsRow.holds Tryz.pinned (OpenSpec.ofChange realmSlotsWrong)

/-- 'pantomimelaw31.RealmHolds': WHATEVER THE INPUT: true; the input reads as it did. -/
def realmHoldsSpec : ChangeSpec := { name := "realmHolds", fn := fun _ => fun
  | [d1, d2, d3] => { results := [.lit (.bool true)], args := [d1, d2, d3] }
  | _ => none }
def realmHoldsRow : OpenClaim := { program := "ytjmonlcchlkdhaagreat", sum := "c25e47b123184c69e39f497aaf97cd2aaa2c5962f01193e9e3285591dd165f79", func := "pantomime/pantomimelaw31.RealmHolds", spec := "realmHolds", unfollowed := true, recurses := true, plainKeys := false, apart := false }
def RealmHoldsSaid : Prop := realmHoldsRow.holds Tryz.pinned (OpenSpec.ofChange realmHoldsSpec)

/-- ITS FALSE NEIGHBOUR: 'it returns false'. Refute it at one input. -/
def realmHoldsWrong : ChangeSpec := { name := "realmHolds", fn := fun _ => fun
  | [d1, d2, d3] => { results := [.lit (.bool false)], args := [d1, d2, d3] }
  | _ => none }
def RealmHoldsWrongFalsely : Prop := realmHoldsRow.holds Tryz.pinned (OpenSpec.ofChange realmHoldsWrong)

/-- 'pantomimelaw31.RealmBlind': WHATEVER THE INPUT: true; the input reads as it did. -/
def realmBlindSpec : ChangeSpec := { name := "realmBlind", fn := fun _ => fun
  | [d1, d2, d3] => { results := [.lit (.bool true)], args := [d1, d2, d3] }
  | _ => none }
def realmBlindRow : OpenClaim := { program := "ytjmonlcchlkdhaagreat", sum := "c25e47b123184c69e39f497aaf97cd2aaa2c5962f01193e9e3285591dd165f79", func := "pantomime/pantomimelaw31.RealmBlind", spec := "realmBlind", unfollowed := true, recurses := true, plainKeys := false, apart := false }
def RealmBlindSaid : Prop := realmBlindRow.holds Tryz.pinned (OpenSpec.ofChange realmBlindSpec)

/-- ITS FALSE NEIGHBOUR: 'it returns false'. Refute it at one input. -/
def realmBlindWrong : ChangeSpec := { name := "realmBlind", fn := fun _ => fun
  | [d1, d2, d3] => { results := [.lit (.bool false)], args := [d1, d2, d3] }
  | _ => none }
def RealmBlindWrongFalsely : Prop := realmBlindRow.holds Tryz.pinned (OpenSpec.ofChange realmBlindWrong)

/-- 'pantomimelaw31.RealmCounts': WHATEVER THE INPUT: true; the input reads as it did. -/
def realmCountsSpec : ChangeSpec := { name := "realmCounts", fn := fun _ => fun
  | [d1, d2] => { results := [.lit (.bool true)], args := [d1, d2] }
  | _ => none }
def realmCountsRow : OpenClaim := { program := "ytjmonlcchlkdhaagreat", sum := "c25e47b123184c69e39f497aaf97cd2aaa2c5962f01193e9e3285591dd165f79", func := "pantomime/pantomimelaw31.RealmCounts", spec := "realmCounts", unfollowed := true, recurses := true, plainKeys := false, apart := false }
def RealmCountsSaid : Prop := realmCountsRow.holds Tryz.pinned (OpenSpec.ofChange realmCountsSpec)

/-- ITS FALSE NEIGHBOUR: 'it returns false'. Refute it at one input. -/
def realmCountsWrong : ChangeSpec := { name := "realmCounts", fn := fun _ => fun
  | [d1, d2] => { results := [.lit (.bool false)], args := [d1, d2] }
  | _ => none }
def RealmCountsWrongFalsely : Prop := realmCountsRow.holds Tryz.pinned (OpenSpec.ofChange realmCountsWrong)

/- THE SECOND FORM. 'bulk': how many values and letters a reading holds, each counted each time it is reached (what is shared counts as often as it is met; a slice's spare places count too). A statement '..UptoSaid' is the law's where the arguments, and the package variables that the reading takes, are together of bulk at most 1048576: NARROWER than '..Said'. Prove '..Said' where nothing that the law and all that it calls make is longer than what came in: it says more and counts as full. Else prove '..UptoSaid'. A law counts once. -/
mutual
def uptoBulk {H : Type} : DataW H → Nat
  | .lit (.string bytes) => bytes.length + 1
  | .lit _ => 1
  | .nil => 1
  | .ptr d => uptoBulk d + 1
  | .slice elems spare => uptoBulkAll elems + uptoBulkAll spare + 1
  | .agg parts => uptoBulkAll parts + 1
  | .iface _ d => uptoBulk d + 1
  | .map entries => uptoBulkEntries entries + 1
  | .held _ => 1
def uptoBulkAll {H : Type} : List (DataW H) → Nat
  | [] => 0
  | d :: r => uptoBulk d + uptoBulkAll r
def uptoBulkEntries {H : Type} : List (Lit × DataW H) → Nat
  | [] => 0
  | x :: r => uptoBulkEntry x + uptoBulkEntries r
def uptoBulkEntry {H : Type} : Lit × DataW H → Nat
  | (.string bytes, d) => bytes.length + uptoBulk d + 1
  | (_, d) => uptoBulk d + 1
 end
def uptoSmall : (H : Type) → List (DataW H) → Bool := fun _ ds => decide (uptoBulkAll ds ≤ 1048576)
def OpenSpec.upto (s : _root_.Go.ChangeSpec) : _root_.Go.OpenSpec := { _root_.Go.OpenSpec.ofChange s with cond := some uptoSmall }

/-- 'pantomimelaw31.RealmSlots', WHERE WHAT IT READS IS OF BULK AT MOST 1048576: true; the input reads as it did. -/
def realmSlotsUptoRow : OpenClaim := { program := "ytjmonlcchlkdhaagreat", sum := "c25e47b123184c69e39f497aaf97cd2aaa2c5962f01193e9e3285591dd165f79", func := "pantomime/pantomimelaw31.RealmSlots", spec := "realmSlots", unfollowed := true, recurses := true, plainKeys := false, apart := false, narrowed := true }
def RealmSlotsUptoSaid : Prop := realmSlotsUptoRow.holds Tryz.pinned (OpenSpec.upto realmSlotsSpec)

/-- 'pantomimelaw31.RealmHolds', WHERE WHAT IT READS IS OF BULK AT MOST 1048576: true; the input reads as it did. -/
def realmHoldsUptoRow : OpenClaim := { program := "ytjmonlcchlkdhaagreat", sum := "c25e47b123184c69e39f497aaf97cd2aaa2c5962f01193e9e3285591dd165f79", func := "pantomime/pantomimelaw31.RealmHolds", spec := "realmHolds", unfollowed := true, recurses := true, plainKeys := false, apart := false, narrowed := true }
def RealmHoldsUptoSaid : Prop := realmHoldsUptoRow.holds Tryz.pinned (OpenSpec.upto realmHoldsSpec)

/-- 'pantomimelaw31.RealmBlind', WHERE WHAT IT READS IS OF BULK AT MOST 1048576: true; the input reads as it did. -/
def realmBlindUptoRow : OpenClaim := { program := "ytjmonlcchlkdhaagreat", sum := "c25e47b123184c69e39f497aaf97cd2aaa2c5962f01193e9e3285591dd165f79", func := "pantomime/pantomimelaw31.RealmBlind", spec := "realmBlind", unfollowed := true, recurses := true, plainKeys := false, apart := false, narrowed := true }
def RealmBlindUptoSaid : Prop := realmBlindUptoRow.holds Tryz.pinned (OpenSpec.upto realmBlindSpec)

/-- 'pantomimelaw31.RealmCounts', WHERE WHAT IT READS IS OF BULK AT MOST 1048576: true; the input reads as it did. -/
def realmCountsUptoRow : OpenClaim := { program := "ytjmonlcchlkdhaagreat", sum := "c25e47b123184c69e39f497aaf97cd2aaa2c5962f01193e9e3285591dd165f79", func := "pantomime/pantomimelaw31.RealmCounts", spec := "realmCounts", unfollowed := true, recurses := true, plainKeys := false, apart := false, narrowed := true }
def RealmCountsUptoSaid : Prop := realmCountsUptoRow.holds Tryz.pinned (OpenSpec.upto realmCountsSpec)

end Rows
end Go.Proofs.YtjmonlcchlkdhaaGreat
