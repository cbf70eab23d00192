/- The walk by small steps: rows of one's own that are written element by element; growing slices. Over any program. -/
import Derived.Test.YtmbaennilhdieaaEng6
namespace Go.Proofs.Ytmbaennilhdieaa
open Go.RowKit

/-- block g is just the rows of xs -/
def Rw {α : Type} (w : World) (g : Nat) (t : TypeId) (en : α → List Value) (xs : List α) : Prop := Blk w g t (xs.flatMap en).toArray
section
variable {P : Program} {n : Nat} {ops : Array Oper} {K : Cont} {s : Env} {w : World} {rest : List Oper} {d : Nat} {ty : TypeId} {pos : String} {af : Array Edge} {gd : Option (Nat × Bool)}
end
/-! a growing slice -/
/-- v is nil, or a row of its own made behind w0; it holds xs -/
def Own {α : Type} (w0 w : World) (t : TypeId) (sz : Nat) (en : α → List Value) (v : Value) (xs : List α) : Prop := w.ownsRow w0.heap.size t sz v xs.length (xs.flatMap en)
def zeroB (P : Program) (e : TypeId) (sz by_ : Nat) : Bool := match P.info? e with
  | some i => Nat.beq i.size sz && Nat.beq i.bytes by_ && (match i.zero with | some z => Nat.beq z.cells.size sz | none => false) && Nat.blt 0 sz
  | none => false
section
variable {P : Program} {n : Nat} {ops : Array Oper} {K : Cont} {s : Env} {w : World} {rest : List Oper} {d : Nat} {ty : TypeId} {pos : String} {af : Array Edge} {gd : Option (Nat × Bool)}
end
end Go.Proofs.Ytmbaennilhdieaa
