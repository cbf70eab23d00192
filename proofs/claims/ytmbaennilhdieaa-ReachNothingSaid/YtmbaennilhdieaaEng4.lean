/- A region that draws its order: operations that only read are taken first; what is left stands in a row. Over any program. -/
import Derived.Test.YtmbaennilhdieaaEng3
namespace Go.Proofs.Ytmbaennilhdieaa
open Go.RowKit

/-- no old block is written -/
def Tame {α : Type} : Sem α → Prop
  | .pure _ => True
  | .load _ _ k => ∀ v, Tame (k v)
  | .store .. => False
  | .new _ k => ∀ r, Tame (k r)
  | .shape _ k => ∀ s, Tame (k s)
  | .freeze .. => False
  | .frozen _ k => ∀ b, Tame (k b)
  | .getObj _ k => ∀ o, Tame (k o)
  | .setObj .. => False
  | .choose _ k => ∀ n, Tame (k n)
  | .sys .. => False
  | .program k => ∀ p, Tame (k p)
  | .mark _ k => Tame k
  | .halt _ => True
theorem tame_bind {α β : Type} {e : Sem α} {f : α → Sem β} (h : Tame e) (hf : ∀ a, Tame (f a)) : Tame (e >>= f) := by
  show Tame (Sem.bind e f)
  induction e with
  | pure a => exact hf a
  | load m a k ih => exact fun v => ih v (h v)
  | store m a v k ih => exact h.elim
  | new o k ih => exact fun v => ih v (h v)
  | shape r k ih => exact fun v => ih v (h v)
  | freeze a n k ih => exact h.elim
  | frozen a k ih => exact fun v => ih v (h v)
  | getObj r k ih => exact fun v => ih v (h v)
  | setObj r o k ih => exact h.elim
  | choose q k ih => exact fun v => ih v (h v)
  | sys c k ih => exact h.elim
  | program k ih => exact fun v => ih v (h v)
  | mark m k ih => exact ih h
  | halt x => trivial
theorem tame_run {α : Type} {P : Program} {e : Sem α} (h : Tame e) : ∀ {w w' : World} {x : α}, e.run P w = .ok x w' → Ext w w' := by
  induction e with
  | pure a => intro w w' x hr; simp only [Sem.run, Result.ok.injEq] at hr; obtain ⟨-, rfl⟩ := hr; exact Ext.refl _
  | load m a k ih =>
    intro w w' x hr
    simp only [Sem.run] at hr
    split at hr
    · exact ih _ (h _) hr
    · split at hr
      · exact ih _ (h _) hr
      · cases hr
  | store m a v k ih => exact h.elim
  | new o k ih => intro w w' x hr; simp only [Sem.run] at hr; exact ((Ext.refl w).alloc o).trans (ih _ (h _) hr)
  | shape r k ih => intro w w' x hr; simp only [Sem.run] at hr; exact ih _ (h _) hr
  | freeze a n k ih => exact h.elim
  | frozen a k ih => intro w w' x hr; simp only [Sem.run] at hr; exact ih _ (h _) hr
  | getObj r k ih =>
    intro w w' x hr
    simp only [Sem.run] at hr
    split at hr
    · cases hr
    · exact ih _ (h _) hr
    · cases hr
  | setObj r o k ih => exact h.elim
  | choose q k ih =>
    intro w w' x hr
    simp only [Sem.run] at hr
    split at hr
    · exact ih _ (h _) hr
    · exact (drew_ext w).trans (ih _ (h _) hr)
  | sys c k ih => exact h.elim
  | program k ih => intro w w' x hr; simp only [Sem.run] at hr; exact ih _ (h _) hr
  | mark m k ih => intro w w' x hr; simp only [Sem.run] at hr; exact ih h hr
  | halt x => intro w w' x hr; simp only [Sem.run] at hr; cases hr
theorem tame_typeInfo (t : TypeId) : Tame (typeInfo t) := by
  unfold typeInfo
  refine tame_bind (fun _ => trivial) fun p => ?_
  split <;> trivial
theorem tame_sizeOf (t : TypeId) : Tame (sizeOf t) := tame_bind (tame_typeInfo t) fun _ => trivial
theorem tame_load (a : Addr) : Tame (load a) := fun _ => trivial
theorem tame_loadCellsFrom (a : Addr) : ∀ (n i : Nat) (acc : Array Value), Tame (loadCellsFrom a i n acc)
  | 0, _, _ => trivial
  | n + 1, i, _ => tame_bind (tame_load _) fun _ => tame_loadCellsFrom a n (i + 1) _
theorem tame_zero (t : TypeId) : Tame (zeroValue t) := by
  unfold zeroValue
  refine tame_bind (tame_typeInfo t) fun p => ?_
  split <;> trivial
def tameB : Op → Bool
  | .move _ | .assign _ | .load .. | .buildSlice .. | .box .. => true
  | _ => false
def TameIn (P : Program) (C : World → Prop) (o : Oper) : Prop := ∀ (ρ : Operand → Value) (w w' : World) (x : Next), C w → (execOp ρ o).run P w = .ok x w' → C w' ∧ ∃ v, x = .value v
section
variable {P : Program} {ops : Array Oper} {Q : Exit → Act → World → Prop} {C : World → Prop}
def YieldsC (P : Program) (ops : Array Oper) (C : World → Prop) (o : Oper) (v : Value) (a : Act) : Prop :=
  (Region.wanted o (yielded ops a.tmps) = true ∧ ∀ w, C w → (execOp a.eval o).run P w = .ok (.value v) w) ∨ (Region.wanted o (yielded ops a.tmps) = false ∧ v = undef)
theorem YieldsC.of_same {o : Oper} {v : Value} {a a' : Act} (hy : YieldsC P ops C o v a) (he : execOp a'.eval o = execOp a.eval o) (hw : Region.wanted o (yielded ops a'.tmps) = Region.wanted o (yielded ops a.tmps)) : YieldsC P ops C o v a' := by
  unfold YieldsC at *
  rw [he, hw]
  exact hy
def Closed (ops : Array Oper) (listed : Array Bool) : Prop := ∀ x o, listed.getD x false = true → ops[x]? = some o → ∀ e ∈ o.after, Region.binds .any e = true → listed.getD e.on false = true
/-- i stands ahead of j -/
def anc (ops : Array Oper) (i : Nat) : Nat → Nat → Bool
  | 0, _ => false
  | f + 1, j => match ops[j]? with
    | none => false
    | some o => o.after.any fun e => Region.binds .any e && (e.on == i || anc ops i f e.on)
end

/-! the same, said of known slots -/
def onlyN (K : Cont) : Cont := fun e s w => e = .normal ∧ K .normal s w
def AnyE (P : Program) (n : Nat) (ops : Array Oper) (K : Cont) (fuel : Nat) (listed : Array Bool) (s : Env) (w : World) : Prop := Closed ops listed → ∀ a, Fits n s a → wpAny P .any ops (Fin n (onlyN K)) fuel listed a w
def okT (ops : Array Oper) (listed : Array Bool) (i : Nat) : Bool := Region.noSelect ops && Region.free .any ops listed i && (Region.ready .any ops listed).contains i
def okC (ops : Array Oper) (listed : Array Bool) (i : Nat) : Bool := Region.noSelect ops && (Region.ready .any ops listed).contains i && (match ops[i]? with
  | none => false
  | some oi => (List.range ops.size).all fun j => j == i || listed.getD j true || anc ops i ops.size j || (match ops[j]? with | some oj => oi.apart ops oj && tameB oj.op | none => true))
section
variable {P : Program} {n : Nat} {ops : Array Oper} {K : Cont} {s : Env} {w : World} {fuel : Nat} {listed : Array Bool} {d : Nat} {op : Op} {ty : TypeId} {pos : String} {af : Array Edge} {gd : Option (Nat × Bool)}
end
end Go.Proofs.Ytmbaennilhdieaa
