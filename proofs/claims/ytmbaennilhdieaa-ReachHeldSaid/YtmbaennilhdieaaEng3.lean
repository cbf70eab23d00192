/- The walk by small steps: new worlds behind variables; frames; ends with results in memory. Over any program. -/
import Derived.Test.YtmbaennilhdieaaEng2
import Derived.StillTail
namespace Go.Proofs.Ytmbaennilhdieaa
open Go.RowKit

/-- w' is w but for new blocks and the blocks of S -/
structure Fr (S : Nat → Prop) (w w' : World) : Prop where
  os : w'.os = w.os
  tape : w'.tape = w.tape
  output : w'.output = w.output
  size : w.heap.size ≤ w'.heap.size
  block : ∀ q, q < w.heap.size → ¬ S q → w'.heap[q]? = w.heap[q]?
theorem Fr.refl (S : Nat → Prop) (w : World) : Fr S w w := ⟨rfl, rfl, rfl, Nat.le_refl _, fun _ _ _ => rfl⟩
theorem Fr.trans {S : Nat → Prop} {a b c : World} (h : Fr S a b) (k : Fr S b c) : Fr S a c :=
  ⟨k.os.trans h.os, k.tape.trans h.tape, k.output.trans h.output, Nat.le_trans h.size k.size, fun q hq hs => (k.block q (Nat.lt_of_lt_of_le hq h.size) hs).trans (h.block q hq hs)⟩
theorem Fr.mono {S S' : Nat → Prop} {a b : World} (h : Fr S a b) (hs : ∀ q, q < a.heap.size → S q → S' q) : Fr S' a b :=
  ⟨h.os, h.tape, h.output, h.size, fun q hq hn => h.block q hq fun k => hn (hs q hq k)⟩
theorem Fr.of_ext {S : Nat → Prop} {a b : World} (h : Ext a b) : Fr S a b := ⟨h.os, h.tape, h.output, h.size, fun q hq _ => h.block q hq⟩
/-- what lay outside the blocks that may change is there still -/
theorem Fr.ext {S : Nat → Prop} {a w w' : World} (h : Ext a w) (k : Fr S w w') (hs : ∀ q, S q → a.heap.size ≤ q) : Ext a w' :=
  ⟨k.os.trans h.os, k.tape.trans h.tape, k.output.trans h.output, Nat.le_trans h.size k.size, fun q hq => (k.block q (Nat.lt_of_lt_of_le hq h.size) fun z => by have := hs q z; omega).trans (h.block q hq)⟩
theorem Blk.fr {S : Nat → Prop} {w w' : World} {b : Nat} {t : TypeId} {cs : Array Value} (h : Blk w b t cs) (k : Fr S w w') (hb : ¬ S b) : Blk w' b t cs := (k.block b h.lt hb).trans h
theorem cell_fr {S : Nat → Prop} {w w' : World} (k : Fr S w w') {b : Nat} (hb : ¬ S b) (hlt : b < w.heap.size) (o : Nat) : w'.cell? ⟨b, o, none⟩ = w.cell? ⟨b, o, none⟩ := World.cell?_of_block (k.block b hlt hb)
theorem CellsAt.fr {S : Nat → Prop} {w w' : World} {b o : Nat} {l : List Value} (h : CellsAt w b o l) (hb : b < w.heap.size) (k : Fr S w w') (hn : ¬ S b) : CellsAt w' b o l := fun j u hj => (cell_fr k hn hb _).trans (h j u hj)
theorem Sl.fr {S : Nat → Prop} {α : Type} {w w' : World} {sz : Nat} {en : α → List Value} {v : Value} {xs : List α} (h : Sl w sz en v xs) (k : Fr S w w') (hn : ∀ q, v.ownBlock = some q → ¬ S q) : Sl w' sz en v xs := by
  obtain ⟨A, c, rfl, hc, hm, hr⟩ := h
  refine ⟨A, c, rfl, hc, hm, fun h0 => ?_⟩
  obtain ⟨b, o, rfl, hlt, hx⟩ := hr h0
  refine ⟨b, o, rfl, Nat.lt_of_lt_of_le hlt k.size, fun i x hi j u hu => (cell_fr k (hn b rfl) hlt _).trans (hx i x hi j u hu)⟩
theorem drew_ext (w : World) : Ext w w.drew := (Ext.refl w).drew
/-- element i of a slice -/
theorem Sl.get {α : Type} {w : World} {sz : Nat} {en : α → List Value} {b o n c : Nat} {xs : List α} (h : Sl w sz en (.slice (some ⟨b, o, none⟩) n c) xs) {i : Nat} {x : α} (hi : xs[i]? = some x) : CellsAt w b (o + i * sz) (en x) := by
  obtain ⟨-, -, -, hr⟩ := h.opened
  obtain ⟨b', o', e, -, hx⟩ := hr (Nat.lt_of_le_of_lt (Nat.zero_le _) (List.getElem?_eq_some_iff.1 hi).1)
  injection e with e
  injection e with e1 e2
  subst e1 e2
  exact fun j u hu => hx i x hi j u hu

section
variable {P : Program} {n : Nat} {ops : Array Oper} {K : Cont} {s : Env} {w : World} {rest : List Oper} {d : Nat} {ty : TypeId} {pos : String} {af : Array Edge} {gd : Option (Nat × Bool)}
theorem A_box {t : TypeId} {x : Operand} {v : Value} (hx : evE s x = some v) (hg : guardE ops s ⟨some d, .box t x, ty, pos, af, gd⟩ = some true) (hd : Nat.ble (d + 1) n = true) (k : ∀ w', Ext w w' → Blk w' w.heap.size t v.cells → RunE P n ops rest K ((d, .pointer (some ⟨w.heap.size, 0, none⟩)) :: s) w') : RunE P n ops (⟨some d, .box t x, ty, pos, af, gd⟩ :: rest) K s w :=
  R_box hx hg hd (k _ ((Ext.refl w).alloc _) (Blk.new w t v.cells))
theorem A_alloc {t : TypeId} {v : Value} (hz : ∀ w, (zeroValue t).run P w = .ok v w) (hg : guardE ops s ⟨some d, .alloc t, ty, pos, af, gd⟩ = some true) (hd : Nat.ble (d + 1) n = true) (k : ∀ w', Ext w w' → Blk w' w.heap.size t v.cells → RunE P n ops rest K ((d, .pointer (some ⟨w.heap.size, 0, none⟩)) :: s) w') : RunE P n ops (⟨some d, .alloc t, ty, pos, af, gd⟩ :: rest) K s w :=
  R_alloc hz hg hd (k _ ((Ext.refl w).alloc _) (Blk.new w t v.cells))
theorem setRow_fr (w : World) (b : Nat) (cs : Array Value) : Fr (· = b) w (w.setRow b cs) :=
  ⟨rfl, rfl, rfl, by unfold World.setRow; simp, fun q _ hn => setRow_other w b q cs hn⟩
theorem A_storeRow {t : TypeId} {x y : Operand} {b : Nat} {cs : List Value} {old : Array Value} {bt : TypeId} (hx : evE s x = some (.pointer (some ⟨b, 0, none⟩))) (hy : evE s y = some (.agg cs.toArray)) (hb : Blk w b bt old) (hu : sizeB P t cs.length = true) (ho : old.size = cs.length) (h1 : cs.all (·.oneCell') = true)
    (hg : guardE ops s ⟨none, .store t x y, ty, pos, af, gd⟩ = some true) (k : ∀ w', Fr (· = b) w w' → Blk w' b bt cs.toArray → RunE P n ops rest K s w') : RunE P n ops (⟨none, .store t x y, ty, pos, af, gd⟩ :: rest) K s w :=
  R_storeRow hx hy hb hu ho h1 hg (k _ (setRow_fr w b _) (setRow_heap w b old cs.toArray bt (0, 0) hb))
theorem setCell_fr (w : World) (b o : Nat) (v : Value) : Fr (· = b) w (w.setCell ⟨b, o, none⟩ v) :=
  ⟨rfl, rfl, rfl, by unfold World.setCell; simp, fun q _ hn => Below.heap_setCell w ⟨b, o, none⟩ v q hn⟩
theorem A_store1 {t : TypeId} {x y : Operand} {b o : Nat} {v u : Value} (hx : evE s x = some (.pointer (some ⟨b, o, none⟩))) (hy : evE s y = some v) (hc : w.cell? ⟨b, o, none⟩ = some u) (hf : w.frozen? ⟨b, o, none⟩ = false) (h1 : v.oneCell' = true) (hu : sizeB P t 1 = true)
    (hg : guardE ops s ⟨none, .store t x y, ty, pos, af, gd⟩ = some true) (k : RunE P n ops rest K s (w.setCell ⟨b, o, none⟩ v)) : RunE P n ops (⟨none, .store t x y, ty, pos, af, gd⟩ :: rest) K s w :=
  R_unit (fun ρ hρ => by
    have hv : v.cells = #[v] := by cases v <;> first | rfl | (cases h1)
    have e0 : (⟨b, o, none⟩ : Addr).add 0 = ⟨b, o, none⟩ := rfl
    unfold execOp
    simp only [hρ x _ hx, hρ y _ hy, Instr.storeAt, Instr.sureAddr, storeVar, Sem.run_bind, Sem.run_pure, Result.andThen_ok, sizeB_run hu w, hv]
    have hst : (store (⟨b, o, none⟩ : Addr) v).run P w = .ok () (w.setCell ⟨b, o, none⟩ v) := by
      rw [run_store P w _ _ _ h1]
      simp [hc, hf]
    simp [storeCells, e0, hst]) hg k
end
section
variable {P : Program} {fn : Func} {R : Ending → World → Prop} {s : Env} {w : World}
/-- the first result lies in memory, the second in a slot -/
theorem endC2 {t u ty : Nat} {b : Nat} {cs : List Value} {x : Value} (hr : fn.results = #[.cell t ty, .tmp u]) (hl : look s t = some (.pointer (some ⟨b, 0, none⟩))) (hc : CellsAt w b 0 cs) (hu : aggB P ty cs.length = true) (hm : look s u = some x) (h : R (.returned (.tuple #[.agg cs.toArray, x])) w) : Ends P fn R .ret s w := fun a ha => by
  refine ⟨_, ?_, h⟩
  have h1 := run_loadS (P := P) hu hc
  unfold results
  rw [hr]
  have e1 := ha.at_ t _ hl
  have e2 := ha.at_ u x hm
  simp at e1 e2
  simp [e1, e2, asAddr, h1]
end

/-! a region that draws its order: reads, and then, behind them all, operations one after the other -/
def StE (P : Program) (n : Nat) (ops : Array Oper) (w : World) (l : List Oper) (K : Env → Prop) (s : Env) : Prop := ∀ a, Fits n s a → wpStill P ops w (fun a' => ∃ s', Fits n s' a' ∧ K s') l a
section
variable {P : Program} {n : Nat} {ops : Array Oper} {K : Env → Prop} {s : Env} {w : World} {rest : List Oper} {d : Nat} {op : Op} {ty : TypeId} {pos : String} {af : Array Edge} {gd : Option (Nat × Bool)}
theorem S_nil (h : K s) : StE P n ops w [] K s := fun _ ha => ⟨s, ha, h⟩
theorem S_ev {v : Value} (h : Ev P s (· = w) ⟨some d, op, ty, pos, af, gd⟩ v) (hg : guardE ops s ⟨some d, op, ty, pos, af, gd⟩ = some true) (hd : Nat.ble (d + 1) n = true) (k : StE P n ops w rest K ((d, v) :: s)) : StE P n ops w (⟨some d, op, ty, pos, af, gd⟩ :: rest) K s := by
  intro a ha
  unfold wpStill
  rw [if_pos (guard_wanted ha hg)]
  unfold Oper.still
  rw [h a.eval (fun x u hx => ha.eval hx) w rfl]
  exact ⟨rfl, k _ (ha.put v (Nat.le_of_ble_eq_true hd))⟩
theorem S_skip (hg : guardE ops s ⟨some d, op, ty, pos, af, gd⟩ = some false) (hd : Nat.ble (d + 1) n = true) (k : StE P n ops w rest K ((d, undef) :: s)) : StE P n ops w (⟨some d, op, ty, pos, af, gd⟩ :: rest) K s := by
  intro a ha
  unfold wpStill
  rw [if_neg (by rw [guard_wanted ha hg]; exact Bool.false_ne_true)]
  exact k _ (ha.put undef (Nat.le_of_ble_eq_true hd))
theorem still_post {l : List Oper} {a : Act} {Q Q' : Act → Prop} (hq : ∀ a, Q a → Q' a) (h : wpStill P ops w Q l a) : wpStill P ops w Q' l a := by
  revert a
  induction l with
  | nil => intro a h; exact hq _ h
  | cons o r ih =>
    intro a h
    unfold wpStill at h ⊢
    split
    · rename_i hw
      rw [if_pos hw] at h
      exact Oper.still_mono (fun _ => ih) h
    · rename_i hw
      rw [if_neg hw] at h
      exact ih h
theorem W_tail {id : Nat} {l : List Oper} {K : Cont} (m : Nat) (hm : P.follows .mixedOrders = true) (hB : Region.lexTailB .any l.toArray m = true) (h : ∀ w1, Ext w w1 → StE P n l.toArray w1 (l.take m) (fun s' => RunE P n l.toArray (l.drop m) K s' w1) s) : Wp P n (.region id l.toArray true) K s w := by
  intro a ha
  refine wp_region_still_tail m hm hB (still_post ?_ (h w.drew (drew_ext w) a ha))
  rintro a' ⟨s', h1, h2⟩
  exact h2 a' h1
end
end Go.Proofs.Ytmbaennilhdieaa
