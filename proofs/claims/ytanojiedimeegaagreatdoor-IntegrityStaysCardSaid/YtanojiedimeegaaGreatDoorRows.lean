/-
  NARROWER THAN 'FOR EVERY INPUT', by the rows' own cells (each row's printed sentence says how): LookupReveals: laid · ArrayOthers: laid · ArrayNames: laid · IntegrityNobody: laid · IntegrityOrder: laid · IntegrityTells: laid · IntegrityStays: laid · LookupSets: laid · LookupNone: laid.
  DERIVED. THE GIVEN ROWS OF THIS SEAT. 9 by the template 'for every input the law returns true; each argument reads behind the call as it read before'; 0 by the template 'total and deterministic' (their statements: YtanojiedimeegaaGreatDoorTotals.lean).
  GIVEN WITH THE SEED: the statements are not yours to turn. If you find one false, say at which input.
  Laid BY PROGRAM, IN A SANDBOX (cutbox-rows.mjs): the forced cells as the released guide's own fill.sh prints them over the translation 586cd0ad695d67e9… (all of the seat's roots in one cut). By AI agents, Wed Nov 11 2026. No macro, syntax, notation, axiom, sorry.
-/
import Derived.Test.YtanojiedimeegaaGreatDoorChecked
import GoSem.Claim
import GoSem.ClaimJoined
import GoSem.ClaimMapViews
import Derived.JoinedTies
import Derived.KernelRfl
namespace Go.Proofs.YtanojiedimeegaaGreatDoor
/- THE CELL 'sum', in the pinned program and in every row, IS THE sha256 OF THE DUMP (.gsa) THAT YtanojiedimeegaaGreatDoorProg.lean LOADS. Nothing in Lean hashes anything: it is a label: what it is worth is what the hold of that sum in a sandbox is worth. -/
noncomputable def Tryz.pinned : Pinned := { name := "ytanojiedimeegaagreatdoor", sum := "586cd0ad695d67e951c73c285405fa29da557a651b0bd3db6ac5b2b96d22c241", checked := Tryz.checked }
namespace Rows
def none {H : Type} : Left H := { results := [], args := [] }

/- WHAT THE LISTED PACKAGE-LEVEL VARIABLES READ AS WHEN THE CALL BEGINS. Each datum BY PROGRAM (the guide's laid-datum.mjs) off the statement by which the dump's own 'gosem.cut.vars' lays the variable. In a bare row this is a premise. The card (YtanojiedimeegaaGreatDoorCards.lean) ties it to the program's text. -/
def laid_pantomime_array_hole {H : Type} : DataW H := .agg [.lit (.int .i64 8), .lit (.int .i64 0), .lit (.string [])]
def laid_math_bits_deBruijn32tab {H : Type} : DataW H := .agg [.lit (.int .u8 0), .lit (.int .u8 1), .lit (.int .u8 28), .lit (.int .u8 2), .lit (.int .u8 29), .lit (.int .u8 14), .lit (.int .u8 24), .lit (.int .u8 3), .lit (.int .u8 30), .lit (.int .u8 22), .lit (.int .u8 20), .lit (.int .u8 15), .lit (.int .u8 25), .lit (.int .u8 17), .lit (.int .u8 4), .lit (.int .u8 8), .lit (.int .u8 31), .lit (.int .u8 27), .lit (.int .u8 13), .lit (.int .u8 23), .lit (.int .u8 21), .lit (.int .u8 19), .lit (.int .u8 16), .lit (.int .u8 7), .lit (.int .u8 26), .lit (.int .u8 12), .lit (.int .u8 18), .lit (.int .u8 6), .lit (.int .u8 11), .lit (.int .u8 5), .lit (.int .u8 10), .lit (.int .u8 9)]
def laid_math_bits_deBruijn64tab {H : Type} : DataW H := .agg [.lit (.int .u8 0), .lit (.int .u8 1), .lit (.int .u8 56), .lit (.int .u8 2), .lit (.int .u8 57), .lit (.int .u8 49), .lit (.int .u8 28), .lit (.int .u8 3), .lit (.int .u8 61), .lit (.int .u8 58), .lit (.int .u8 42), .lit (.int .u8 50), .lit (.int .u8 38), .lit (.int .u8 29), .lit (.int .u8 17), .lit (.int .u8 4), .lit (.int .u8 62), .lit (.int .u8 47), .lit (.int .u8 59), .lit (.int .u8 36), .lit (.int .u8 45), .lit (.int .u8 43), .lit (.int .u8 51), .lit (.int .u8 22), .lit (.int .u8 53), .lit (.int .u8 39), .lit (.int .u8 33), .lit (.int .u8 30), .lit (.int .u8 24), .lit (.int .u8 18), .lit (.int .u8 12), .lit (.int .u8 5), .lit (.int .u8 63), .lit (.int .u8 55), .lit (.int .u8 48), .lit (.int .u8 27), .lit (.int .u8 60), .lit (.int .u8 41), .lit (.int .u8 37), .lit (.int .u8 16), .lit (.int .u8 46), .lit (.int .u8 35), .lit (.int .u8 44), .lit (.int .u8 21), .lit (.int .u8 52), .lit (.int .u8 32), .lit (.int .u8 23), .lit (.int .u8 11), .lit (.int .u8 54), .lit (.int .u8 26), .lit (.int .u8 40), .lit (.int .u8 15), .lit (.int .u8 34), .lit (.int .u8 20), .lit (.int .u8 31), .lit (.int .u8 10), .lit (.int .u8 25), .lit (.int .u8 14), .lit (.int .u8 19), .lit (.int .u8 9), .lit (.int .u8 13), .lit (.int .u8 8), .lit (.int .u8 7), .lit (.int .u8 6)]
def laid_internal_strconv_uint64pow10 {H : Type} : DataW H := .agg [.lit (.int .u64 1), .lit (.int .u64 10), .lit (.int .u64 100), .lit (.int .u64 1000), .lit (.int .u64 10000), .lit (.int .u64 100000), .lit (.int .u64 1000000), .lit (.int .u64 10000000), .lit (.int .u64 100000000), .lit (.int .u64 1000000000), .lit (.int .u64 10000000000), .lit (.int .u64 100000000000), .lit (.int .u64 1000000000000), .lit (.int .u64 10000000000000), .lit (.int .u64 100000000000000), .lit (.int .u64 1000000000000000), .lit (.int .u64 10000000000000000), .lit (.int .u64 100000000000000000), .lit (.int .u64 1000000000000000000), .lit (.int .u64 10000000000000000000)]

/-- 'pantomimelaw34.LookupReveals': WHATEVER THE INPUT: true; the input reads as it did. -/
def lookupRevealsSpec : ChangeSpec := { name := "lookupReveals", fn := fun _ => fun
  | [d1, d2, d3] => { results := [.lit (.bool true)], args := [d1, d2, d3] }
  | _ => none }
def lookupRevealsRow : OpenClaim := { program := "ytanojiedimeegaagreatdoor", sum := "586cd0ad695d67e951c73c285405fa29da557a651b0bd3db6ac5b2b96d22c241", func := "pantomime/pantomimelaw34.LookupReveals", spec := "lookupReveals", unfollowed := true, recurses := true, named := ["pantomime/array.hole"], plainKeys := false, apart := false, laid := [("pantomime/array.hole", laid_pantomime_array_hole)] }
def LookupRevealsSaid : Prop := lookupRevealsRow.holds Tryz.pinned (OpenSpec.ofChange lookupRevealsSpec)

/-- ITS FALSE NEIGHBOUR: 'it returns false'. Refute it at one input. -/
def lookupRevealsWrong : ChangeSpec := { name := "lookupReveals", fn := fun _ => fun
  | [d1, d2, d3] => { results := [.lit (.bool false)], args := [d1, d2, d3] }
  | _ => none }
def LookupRevealsWrongFalsely : Prop := lookupRevealsRow.holds Tryz.pinned (OpenSpec.ofChange lookupRevealsWrong)

/-- 'pantomimelaw33.ArrayOthers': WHATEVER THE INPUT: true; the input reads as it did. -/
def arrayOthersSpec : ChangeSpec := { name := "arrayOthers", fn := fun _ => fun
  | [d1, d2] => { results := [.lit (.bool true)], args := [d1, d2] }
  | _ => none }
def arrayOthersRow : OpenClaim := { program := "ytanojiedimeegaagreatdoor", sum := "586cd0ad695d67e951c73c285405fa29da557a651b0bd3db6ac5b2b96d22c241", func := "pantomime/pantomimelaw33.ArrayOthers", spec := "arrayOthers", unfollowed := true, recurses := true, named := ["pantomime/array.hole"], plainKeys := false, apart := false, laid := [("pantomime/array.hole", laid_pantomime_array_hole)] }
def ArrayOthersSaid : Prop := arrayOthersRow.holds Tryz.pinned (OpenSpec.ofChange arrayOthersSpec)

/-- ITS FALSE NEIGHBOUR: 'it returns false'. Refute it at one input. -/
def arrayOthersWrong : ChangeSpec := { name := "arrayOthers", fn := fun _ => fun
  | [d1, d2] => { results := [.lit (.bool false)], args := [d1, d2] }
  | _ => none }
def ArrayOthersWrongFalsely : Prop := arrayOthersRow.holds Tryz.pinned (OpenSpec.ofChange arrayOthersWrong)

/-- 'pantomimelaw33.ArrayNames': WHATEVER THE INPUT: true; the input reads as it did. -/
def arrayNamesSpec : ChangeSpec := { name := "arrayNames", fn := fun _ => fun
  | [d] => { results := [.lit (.bool true)], args := [d] }
  | _ => none }
def arrayNamesRow : OpenClaim := { program := "ytanojiedimeegaagreatdoor", sum := "586cd0ad695d67e951c73c285405fa29da557a651b0bd3db6ac5b2b96d22c241", func := "pantomime/pantomimelaw33.ArrayNames", spec := "arrayNames", unfollowed := true, recurses := true, named := ["pantomime/array.hole"], plainKeys := false, apart := false, laid := [("pantomime/array.hole", laid_pantomime_array_hole)] }
def ArrayNamesSaid : Prop := arrayNamesRow.holds Tryz.pinned (OpenSpec.ofChange arrayNamesSpec)

/-- ITS FALSE NEIGHBOUR: 'it returns false'. Refute it at one input. -/
def arrayNamesWrong : ChangeSpec := { name := "arrayNames", fn := fun _ => fun
  | [d] => { results := [.lit (.bool false)], args := [d] }
  | _ => none }
def ArrayNamesWrongFalsely : Prop := arrayNamesRow.holds Tryz.pinned (OpenSpec.ofChange arrayNamesWrong)

/-- 'pantomimelaw35.IntegrityNobody': WHATEVER THE INPUT: true; the input reads as it did. -/
def integrityNobodySpec : ChangeSpec := { name := "integrityNobody", fn := fun _ => fun
  | [d] => { results := [.lit (.bool true)], args := [d] }
  | _ => none }
def integrityNobodyRow : OpenClaim := { program := "ytanojiedimeegaagreatdoor", sum := "586cd0ad695d67e951c73c285405fa29da557a651b0bd3db6ac5b2b96d22c241", func := "pantomime/pantomimelaw35.IntegrityNobody", spec := "integrityNobody", unfollowed := true, recurses := true, named := ["pantomime/array.hole"], plainKeys := false, apart := false, laid := [("pantomime/array.hole", laid_pantomime_array_hole)] }
def IntegrityNobodySaid : Prop := integrityNobodyRow.holds Tryz.pinned (OpenSpec.ofChange integrityNobodySpec)

/-- ITS FALSE NEIGHBOUR: 'it returns false'. Refute it at one input. -/
def integrityNobodyWrong : ChangeSpec := { name := "integrityNobody", fn := fun _ => fun
  | [d] => { results := [.lit (.bool false)], args := [d] }
  | _ => none }
def IntegrityNobodyWrongFalsely : Prop := integrityNobodyRow.holds Tryz.pinned (OpenSpec.ofChange integrityNobodyWrong)

/-- 'pantomimelaw35.IntegrityOrder': WHATEVER THE INPUT: true; the input reads as it did. -/
def integrityOrderSpec : ChangeSpec := { name := "integrityOrder", fn := fun _ => fun
  | [d] => { results := [.lit (.bool true)], args := [d] }
  | _ => none }
def integrityOrderRow : OpenClaim := { program := "ytanojiedimeegaagreatdoor", sum := "586cd0ad695d67e951c73c285405fa29da557a651b0bd3db6ac5b2b96d22c241", func := "pantomime/pantomimelaw35.IntegrityOrder", spec := "integrityOrder", unfollowed := true, recurses := true, named := ["pantomime/array.hole"], plainKeys := false, apart := false, laid := [("pantomime/array.hole", laid_pantomime_array_hole)] }
def IntegrityOrderSaid : Prop := integrityOrderRow.holds Tryz.pinned (OpenSpec.ofChange integrityOrderSpec)

/-- ITS FALSE NEIGHBOUR: 'it returns false'. Refute it at one input. -/
def integrityOrderWrong : ChangeSpec := { name := "integrityOrder", fn := fun _ => fun
  | [d] => { results := [.lit (.bool false)], args := [d] }
  | _ => none }
def IntegrityOrderWrongFalsely : Prop := integrityOrderRow.holds Tryz.pinned (OpenSpec.ofChange integrityOrderWrong)

/-- 'pantomimelaw35.IntegrityTells': WHATEVER THE INPUT: true; the input reads as it did. -/
def integrityTellsSpec : ChangeSpec := { name := "integrityTells", fn := fun _ => fun
  | [d1, d2] => { results := [.lit (.bool true)], args := [d1, d2] }
  | _ => none }
def integrityTellsRow : OpenClaim := { program := "ytanojiedimeegaagreatdoor", sum := "586cd0ad695d67e951c73c285405fa29da557a651b0bd3db6ac5b2b96d22c241", func := "pantomime/pantomimelaw35.IntegrityTells", spec := "integrityTells", unfollowed := true, recurses := true, named := ["pantomime/array.hole"], plainKeys := false, apart := false, laid := [("pantomime/array.hole", laid_pantomime_array_hole)] }
def IntegrityTellsSaid : Prop := integrityTellsRow.holds Tryz.pinned (OpenSpec.ofChange integrityTellsSpec)

/-- ITS FALSE NEIGHBOUR: 'it returns false'. Refute it at one input. -/
def integrityTellsWrong : ChangeSpec := { name := "integrityTells", fn := fun _ => fun
  | [d1, d2] => { results := [.lit (.bool false)], args := [d1, d2] }
  | _ => none }
def IntegrityTellsWrongFalsely : Prop := integrityTellsRow.holds Tryz.pinned (OpenSpec.ofChange integrityTellsWrong)

/-- 'pantomimelaw35.IntegrityStays': WHATEVER THE INPUT: true; the input reads as it did. -/
def integrityStaysSpec : ChangeSpec := { name := "integrityStays", fn := fun _ => fun
  | [d1, d2, d3] => { results := [.lit (.bool true)], args := [d1, d2, d3] }
  | _ => none }
def integrityStaysRow : OpenClaim := { program := "ytanojiedimeegaagreatdoor", sum := "586cd0ad695d67e951c73c285405fa29da557a651b0bd3db6ac5b2b96d22c241", func := "pantomime/pantomimelaw35.IntegrityStays", spec := "integrityStays", unfollowed := true, recurses := true, named := ["pantomime/array.hole"], plainKeys := false, apart := false, laid := [("pantomime/array.hole", laid_pantomime_array_hole)] }
def IntegrityStaysSaid : Prop := integrityStaysRow.holds Tryz.pinned (OpenSpec.ofChange integrityStaysSpec)

/-- ITS FALSE NEIGHBOUR: 'it returns false'. Refute it at one input. -/
def integrityStaysWrong : ChangeSpec := { name := "integrityStays", fn := fun _ => fun
  | [d1, d2, d3] => { results := [.lit (.bool false)], args := [d1, d2, d3] }
  | _ => none }
def IntegrityStaysWrongFalsely : Prop := integrityStaysRow.holds Tryz.pinned (OpenSpec.ofChange integrityStaysWrong)

/-- 'pantomimelaw34.LookupSets': WHATEVER THE INPUT: true; the input reads as it did. -/
def lookupSetsSpec : ChangeSpec := { name := "lookupSets", fn := fun _ => fun
  | [d1, d2, d3] => { results := [.lit (.bool true)], args := [d1, d2, d3] }
  | _ => none }
def lookupSetsRow : OpenClaim := { program := "ytanojiedimeegaagreatdoor", sum := "586cd0ad695d67e951c73c285405fa29da557a651b0bd3db6ac5b2b96d22c241", func := "pantomime/pantomimelaw34.LookupSets", spec := "lookupSets", unfollowed := true, recurses := true, named := ["pantomime/array.hole"], plainKeys := false, apart := false, laid := [("pantomime/array.hole", laid_pantomime_array_hole)] }
def LookupSetsSaid : Prop := lookupSetsRow.holds Tryz.pinned (OpenSpec.ofChange lookupSetsSpec)

/-- ITS FALSE NEIGHBOUR: 'it returns false'. Refute it at one input. -/
def lookupSetsWrong : ChangeSpec := { name := "lookupSets", fn := fun _ => fun
  | [d1, d2, d3] => { results := [.lit (.bool false)], args := [d1, d2, d3] }
  | _ => none }
def LookupSetsWrongFalsely : Prop := lookupSetsRow.holds Tryz.pinned (OpenSpec.ofChange lookupSetsWrong)

/-- 'pantomimelaw34.LookupNone': WHATEVER THE INPUT: true; the input reads as it did. -/
def lookupNoneSpec : ChangeSpec := { name := "lookupNone", fn := fun _ => fun
  | [d1, d2] => { results := [.lit (.bool true)], args := [d1, d2] }
  | _ => none }
def lookupNoneRow : OpenClaim := { program := "ytanojiedimeegaagreatdoor", sum := "586cd0ad695d67e951c73c285405fa29da557a651b0bd3db6ac5b2b96d22c241", func := "pantomime/pantomimelaw34.LookupNone", spec := "lookupNone", unfollowed := true, recurses := true, named := ["pantomime/array.hole", "internal/strconv.uint64pow10", "math/bits.deBruijn32tab", "math/bits.deBruijn64tab"], plainKeys := false, apart := false, laid := [("math/bits.deBruijn32tab", laid_math_bits_deBruijn32tab), ("math/bits.deBruijn64tab", laid_math_bits_deBruijn64tab), ("internal/strconv.uint64pow10", laid_internal_strconv_uint64pow10), ("pantomime/array.hole", laid_pantomime_array_hole)] }
def LookupNoneSaid : Prop := lookupNoneRow.holds Tryz.pinned (OpenSpec.ofChange lookupNoneSpec)

/-- ITS FALSE NEIGHBOUR: 'it returns false'. Refute it at one input. -/
def lookupNoneWrong : ChangeSpec := { name := "lookupNone", fn := fun _ => fun
  | [d1, d2] => { results := [.lit (.bool false)], args := [d1, d2] }
  | _ => none }
def LookupNoneWrongFalsely : Prop := lookupNoneRow.holds Tryz.pinned (OpenSpec.ofChange lookupNoneWrong)

/- THE SECOND FORM. 'bulk': how many values and letters a reading holds, each counted each time it is reached (what is shared counts as often as it is met; a slice's spare places count too). A statement '..UptoSaid' is the law's where the arguments, and the package variables that the reading takes, are together of bulk at most 1048576: NARROWER than '..Said'. Prove '..Said' where nothing that the law and all that it calls make is longer than what came in: it says more and counts as full. Else prove '..UptoSaid'. A law counts once. -/
mutual
def uptoBulk {H : Type} : DataW H → Nat
  | .lit (.string bytes) => bytes.length + 1
  | .lit _ => 1
  | .nil => 1
  | .ptr d => uptoBulk d + 1
  | .slice elems spare => uptoBulkAll elems + uptoBulkAll spare + 1
  | .agg parts => uptoBulkAll parts + 1
  | .iface _ d => uptoBulk d + 1
  | .map entries => uptoBulkEntries entries + 1
  | .held _ => 1
def uptoBulkAll {H : Type} : List (DataW H) → Nat
  | [] => 0
  | d :: r => uptoBulk d + uptoBulkAll r
def uptoBulkEntries {H : Type} : List (Lit × DataW H) → Nat
  | [] => 0
  | x :: r => uptoBulkEntry x + uptoBulkEntries r
def uptoBulkEntry {H : Type} : Lit × DataW H → Nat
  | (.string bytes, d) => bytes.length + uptoBulk d + 1
  | (_, d) => uptoBulk d + 1
 end
def uptoSmall : (H : Type) → List (DataW H) → Bool := fun _ ds => decide (uptoBulkAll ds ≤ 1048576)
def OpenSpec.upto (s : _root_.Go.ChangeSpec) : _root_.Go.OpenSpec := { _root_.Go.OpenSpec.ofChange s with cond := some uptoSmall }

/-- 'pantomimelaw34.LookupReveals', WHERE WHAT IT READS IS OF BULK AT MOST 1048576: true; the input reads as it did. -/
def lookupRevealsUptoRow : OpenClaim := { program := "ytanojiedimeegaagreatdoor", sum := "586cd0ad695d67e951c73c285405fa29da557a651b0bd3db6ac5b2b96d22c241", func := "pantomime/pantomimelaw34.LookupReveals", spec := "lookupReveals", unfollowed := true, recurses := true, named := ["pantomime/array.hole"], plainKeys := false, apart := false, laid := [("pantomime/array.hole", laid_pantomime_array_hole)], narrowed := true }
def LookupRevealsUptoSaid : Prop := lookupRevealsUptoRow.holds Tryz.pinned (OpenSpec.upto lookupRevealsSpec)

/-- 'pantomimelaw33.ArrayOthers', WHERE WHAT IT READS IS OF BULK AT MOST 1048576: true; the input reads as it did. -/
def arrayOthersUptoRow : OpenClaim := { program := "ytanojiedimeegaagreatdoor", sum := "586cd0ad695d67e951c73c285405fa29da557a651b0bd3db6ac5b2b96d22c241", func := "pantomime/pantomimelaw33.ArrayOthers", spec := "arrayOthers", unfollowed := true, recurses := true, named := ["pantomime/array.hole"], plainKeys := false, apart := false, laid := [("pantomime/array.hole", laid_pantomime_array_hole)], narrowed := true }
def ArrayOthersUptoSaid : Prop := arrayOthersUptoRow.holds Tryz.pinned (OpenSpec.upto arrayOthersSpec)

/-- 'pantomimelaw33.ArrayNames', WHERE WHAT IT READS IS OF BULK AT MOST 1048576: true; the input reads as it did. -/
def arrayNamesUptoRow : OpenClaim := { program := "ytanojiedimeegaagreatdoor", sum := "586cd0ad695d67e951c73c285405fa29da557a651b0bd3db6ac5b2b96d22c241", func := "pantomime/pantomimelaw33.ArrayNames", spec := "arrayNames", unfollowed := true, recurses := true, named := ["pantomime/array.hole"], plainKeys := false, apart := false, laid := [("pantomime/array.hole", laid_pantomime_array_hole)], narrowed := true }
def ArrayNamesUptoSaid : Prop := arrayNamesUptoRow.holds Tryz.pinned (OpenSpec.upto arrayNamesSpec)

/-- 'pantomimelaw35.IntegrityNobody', WHERE WHAT IT READS IS OF BULK AT MOST 1048576: true; the input reads as it did. -/
def integrityNobodyUptoRow : OpenClaim := { program := "ytanojiedimeegaagreatdoor", sum := "586cd0ad695d67e951c73c285405fa29da557a651b0bd3db6ac5b2b96d22c241", func := "pantomime/pantomimelaw35.IntegrityNobody", spec := "integrityNobody", unfollowed := true, recurses := true, named := ["pantomime/array.hole"], plainKeys := false, apart := false, laid := [("pantomime/array.hole", laid_pantomime_array_hole)], narrowed := true }
def IntegrityNobodyUptoSaid : Prop := integrityNobodyUptoRow.holds Tryz.pinned (OpenSpec.upto integrityNobodySpec)

/-- 'pantomimelaw35.IntegrityOrder', WHERE WHAT IT READS IS OF BULK AT MOST 1048576: true; the input reads as it did. -/
def integrityOrderUptoRow : OpenClaim := { program := "ytanojiedimeegaagreatdoor", sum := "586cd0ad695d67e951c73c285405fa29da557a651b0bd3db6ac5b2b96d22c241", func := "pantomime/pantomimelaw35.IntegrityOrder", spec := "integrityOrder", unfollowed := true, recurses := true, named := ["pantomime/array.hole"], plainKeys := false, apart := false, laid := [("pantomime/array.hole", laid_pantomime_array_hole)], narrowed := true }
def IntegrityOrderUptoSaid : Prop := integrityOrderUptoRow.holds Tryz.pinned (OpenSpec.upto integrityOrderSpec)

/-- 'pantomimelaw35.IntegrityTells', WHERE WHAT IT READS IS OF BULK AT MOST 1048576: true; the input reads as it did. -/
def integrityTellsUptoRow : OpenClaim := { program := "ytanojiedimeegaagreatdoor", sum := "586cd0ad695d67e951c73c285405fa29da557a651b0bd3db6ac5b2b96d22c241", func := "pantomime/pantomimelaw35.IntegrityTells", spec := "integrityTells", unfollowed := true, recurses := true, named := ["pantomime/array.hole"], plainKeys := false, apart := false, laid := [("pantomime/array.hole", laid_pantomime_array_hole)], narrowed := true }
def IntegrityTellsUptoSaid : Prop := integrityTellsUptoRow.holds Tryz.pinned (OpenSpec.upto integrityTellsSpec)

/-- 'pantomimelaw35.IntegrityStays', WHERE WHAT IT READS IS OF BULK AT MOST 1048576: true; the input reads as it did. -/
def integrityStaysUptoRow : OpenClaim := { program := "ytanojiedimeegaagreatdoor", sum := "586cd0ad695d67e951c73c285405fa29da557a651b0bd3db6ac5b2b96d22c241", func := "pantomime/pantomimelaw35.IntegrityStays", spec := "integrityStays", unfollowed := true, recurses := true, named := ["pantomime/array.hole"], plainKeys := false, apart := false, laid := [("pantomime/array.hole", laid_pantomime_array_hole)], narrowed := true }
def IntegrityStaysUptoSaid : Prop := integrityStaysUptoRow.holds Tryz.pinned (OpenSpec.upto integrityStaysSpec)

/-- 'pantomimelaw34.LookupSets', WHERE WHAT IT READS IS OF BULK AT MOST 1048576: true; the input reads as it did. -/
def lookupSetsUptoRow : OpenClaim := { program := "ytanojiedimeegaagreatdoor", sum := "586cd0ad695d67e951c73c285405fa29da557a651b0bd3db6ac5b2b96d22c241", func := "pantomime/pantomimelaw34.LookupSets", spec := "lookupSets", unfollowed := true, recurses := true, named := ["pantomime/array.hole"], plainKeys := false, apart := false, laid := [("pantomime/array.hole", laid_pantomime_array_hole)], narrowed := true }
def LookupSetsUptoSaid : Prop := lookupSetsUptoRow.holds Tryz.pinned (OpenSpec.upto lookupSetsSpec)

/-- 'pantomimelaw34.LookupNone', WHERE WHAT IT READS IS OF BULK AT MOST 1048576: true; the input reads as it did. -/
def lookupNoneUptoRow : OpenClaim := { program := "ytanojiedimeegaagreatdoor", sum := "586cd0ad695d67e951c73c285405fa29da557a651b0bd3db6ac5b2b96d22c241", func := "pantomime/pantomimelaw34.LookupNone", spec := "lookupNone", unfollowed := true, recurses := true, named := ["pantomime/array.hole", "internal/strconv.uint64pow10", "math/bits.deBruijn32tab", "math/bits.deBruijn64tab"], plainKeys := false, apart := false, laid := [("math/bits.deBruijn32tab", laid_math_bits_deBruijn32tab), ("math/bits.deBruijn64tab", laid_math_bits_deBruijn64tab), ("internal/strconv.uint64pow10", laid_internal_strconv_uint64pow10), ("pantomime/array.hole", laid_pantomime_array_hole)], narrowed := true }
def LookupNoneUptoSaid : Prop := lookupNoneUptoRow.holds Tryz.pinned (OpenSpec.upto lookupNoneSpec)

end Rows
end Go.Proofs.YtanojiedimeegaaGreatDoor
