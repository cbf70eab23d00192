/- The walk by small steps: new worlds behind variables; frames; ends with results in memory. Over any program. -/
import Derived.Test.YtmbaennilhdieaaEng2
import Derived.StillTail
namespace Go.Proofs.Ytmbaennilhdieaa
open Go.RowKit

/-- w' is w but for new blocks and the blocks of S -/
structure Fr (S : Nat → Prop) (w w' : World) : Prop where
  os : w'.os = w.os
  tape : w'.tape = w.tape
  output : w'.output = w.output
  size : w.heap.size ≤ w'.heap.size
  block : ∀ q, q < w.heap.size → ¬ S q → w'.heap[q]? = w.heap[q]?
theorem Fr.refl (S : Nat → Prop) (w : World) : Fr S w w := ⟨rfl, rfl, rfl, Nat.le_refl _, fun _ _ _ => rfl⟩
theorem Fr.trans {S : Nat → Prop} {a b c : World} (h : Fr S a b) (k : Fr S b c) : Fr S a c :=
  ⟨k.os.trans h.os, k.tape.trans h.tape, k.output.trans h.output, Nat.le_trans h.size k.size, fun q hq hs => (k.block q (Nat.lt_of_lt_of_le hq h.size) hs).trans (h.block q hq hs)⟩
theorem drew_ext (w : World) : Ext w w.drew := (Ext.refl w).drew
section
variable {P : Program} {n : Nat} {ops : Array Oper} {K : Cont} {s : Env} {w : World} {rest : List Oper} {d : Nat} {ty : TypeId} {pos : String} {af : Array Edge} {gd : Option (Nat × Bool)}
theorem setCell_fr (w : World) (b o : Nat) (v : Value) : Fr (· = b) w (w.setCell ⟨b, o, none⟩ v) :=
  ⟨rfl, rfl, rfl, by unfold World.setCell; simp, fun q _ hn => Below.heap_setCell w ⟨b, o, none⟩ v q hn⟩
end
section
variable {P : Program} {fn : Func} {R : Ending → World → Prop} {s : Env} {w : World}
end

/-! a region that draws its order: reads, and then, behind them all, operations one after the other -/
def StE (P : Program) (n : Nat) (ops : Array Oper) (w : World) (l : List Oper) (K : Env → Prop) (s : Env) : Prop := ∀ a, Fits n s a → wpStill P ops w (fun a' => ∃ s', Fits n s' a' ∧ K s') l a
section
variable {P : Program} {n : Nat} {ops : Array Oper} {K : Env → Prop} {s : Env} {w : World} {rest : List Oper} {d : Nat} {op : Op} {ty : TypeId} {pos : String} {af : Array Edge} {gd : Option (Nat × Bool)}
end
end Go.Proofs.Ytmbaennilhdieaa
