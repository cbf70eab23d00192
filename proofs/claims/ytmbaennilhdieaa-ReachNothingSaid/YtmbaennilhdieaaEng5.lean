/- The walk by small steps: slices by their list, frames by the blocks' types, growing rows, maps. Over any program. -/
import Derived.Test.YtmbaennilhdieaaEng4
import Derived.Laws.AppendOwn
import Derived.Laws.MakeOwn
import Derived.Laws.OwnMore
namespace Go.Proofs.Ytmbaennilhdieaa
open Go.RowKit

/-! where an appended slice lies -/
def Keeps {α : Type} (h : Nat) (Q : α → Prop) (e : Sem α) : Prop := ∀ (P : Program) (w w' : World) (a : α), h ≤ w.heap.size → e.run P w = .ok a w' → Q a ∧ h ≤ w'.heap.size
def Gives {α : Type} (h : Nat) (Q : α → Prop) (e : Sem α) : Prop := ∀ (P : Program) (w w' : World) (a : α), h ≤ w.heap.size → e.run P w = .ok a w' → Q a
theorem keeps_tame {α : Type} {h : Nat} {e : Sem α} (ht : Tame e) : Keeps h (fun _ => True) e := fun _ _ _ _ hw hr => ⟨trivial, Nat.le_trans hw (tame_run ht hr).size⟩
theorem bind_ok {α β : Type} {P : Program} {e : Sem α} {f : α → Sem β} {w w' : World} {b : β} (h : (e >>= f).run P w = .ok b w') : ∃ a w1, e.run P w = .ok a w1 ∧ (f a).run P w1 = .ok b w' := by
  rw [Sem.run_bind] at h
  cases he : e.run P w with
  | ok a w1 => rw [he, Result.andThen_ok] at h; exact ⟨a, w1, rfl, h⟩
  | halt q w1 => rw [he] at h; simp [Result.andThen] at h
theorem gives_bind {α β : Type} {h : Nat} {Q1 : α → Prop} {Q : β → Prop} {e : Sem α} {f : α → Sem β} (he : Keeps h Q1 e) (hf : ∀ a, Q1 a → Gives h Q (f a)) : Gives h Q (e >>= f) := fun P w w' b hw hr => by
  obtain ⟨a, w1, h1, h2⟩ := bind_ok hr
  obtain ⟨h3, h4⟩ := he P w w1 a hw h1
  exact hf a h3 P w1 w' b h4 h2
theorem gives_tame {α β : Type} {h : Nat} {Q : β → Prop} {e : Sem α} {f : α → Sem β} (he : Tame e) (hf : ∀ a, Gives h Q (f a)) : Gives h Q (e >>= f) := gives_bind (keeps_tame he) fun a _ => hf a
theorem gives_pure {α : Type} {h : Nat} {Q : α → Prop} {a : α} (hq : Q a) : Gives h Q (pure a) := fun P w w' b _ hr => by
  simp only [Sem.run_pure, Result.ok.injEq] at hr; rw [← hr.1]; exact hq
theorem gives_last {α β : Type} {h : Nat} {Q : β → Prop} {e : Sem α} {v : β} (hq : Q v) : Gives h Q (e >>= fun _ => pure v) := fun P w w' b _ hr => by
  obtain ⟨a, w1, h1, h2⟩ := bind_ok hr
  simp only [Sem.run_pure, Result.ok.injEq] at h2; rw [← h2.1]; exact hq
theorem gives_ite {α : Type} {h : Nat} {Q : α → Prop} {c : Prop} [Decidable c] {x y : Sem α} (hx : Gives h Q x) (hy : Gives h Q y) : Gives h Q (if c then x else y) := by split <;> assumption
theorem tame_loadCells (a : Addr) (n : Nat) : Tame (loadCells a n) := tame_loadCellsFrom a n 0 #[]
theorem tame_firstCells (sz n : Nat) (v : Value) : Tame (Builtin.firstCells sz n v) := by unfold Builtin.firstCells; split <;> first | exact tame_loadCells _ _ | trivial
def Never {α : Type} (e : Sem α) : Prop := ∀ (P : Program) (w w' : World) (a : α), e.run P w ≠ .ok a w'
theorem never_halt {α : Type} {x : Halt} : Never (.halt x : Sem α) := fun P w w' a h => by simp [Sem.run] at h
theorem never_bind {α β : Type} {e : Sem α} {f : α → Sem β} (hf : ∀ a, Never (f a)) : Never (e >>= f) := fun P w w' b hr => by
  obtain ⟨a, w1, h1, h2⟩ := bind_ok hr
  exact hf a P w1 w' b h2
theorem never_ite {α : Type} {c : Prop} [Decidable c] {x y : Sem α} (hx : Never x) (hy : Never y) : Never (if c then x else y) := by split <;> assumption
theorem never_error {α : Type} (m : String) : Never (runtimePanic (.error m) : Sem α) := never_bind fun _ => never_halt
theorem gives_never {α β : Type} {h : Nat} {Q : β → Prop} {e : Sem α} {f : α → Sem β} (he : Never e) : Gives h Q (e >>= f) := fun P w w' b hw hr => by
  obtain ⟨a, w1, h1, h2⟩ := bind_ok hr
  exact absurd h1 (he P w w1 a)
theorem tame_askRoom (n : Nat) : Tame (askRoom n) := by unfold askRoom; split <;> trivial
theorem tame_lenOf (v : Value) : Tame (Builtin.lenOf v) := by unfold Builtin.lenOf; split <;> trivial
theorem keeps_newRow (h : Nat) (e : TypeId) (cs : Array Value) : Keeps h (fun a => h ≤ a.block) (newRow e cs) := fun P w w' a hw hr => by
  have h1 : (newRow e cs).run P w = .ok ⟨w.heap.size, 0, none⟩ (w.alloc (.cells cs e)) := rfl
  rw [h1] at hr
  simp only [Result.ok.injEq] at hr
  obtain ⟨rfl, rfl⟩ := hr
  exact ⟨hw, by simp; omega⟩
theorem app_block {P : Program} {t ty e : TypeId} {bb n cap : Nat} {x v : Value} {w w' : World} (ht : P.underlying t = some (.slice e)) (hr : (Builtin.append_ #[t, t] ty #[.slice (some ⟨bb, 0, none⟩) n cap, x]).run P w = .ok v w') : v.ownBlock = some bb ∨ ∃ q, v.ownBlock = some q ∧ w.heap.size ≤ q := by
  unfold Builtin.append_ at hr
  simp only [List.getElem?_toArray, List.getElem?_cons_zero, List.getElem?_cons_succ] at hr
  rw [Sem.run_bind, run_underlying ht, Result.andThen_ok] at hr
  dsimp only at hr
  obtain ⟨sz, w1, h1, hr⟩ := bind_ok hr
  have e1 := (tame_run (tame_sizeOf _) h1).size
  rw [Sem.run_bind, run_underlying ht, Result.andThen_ok] at hr
  dsimp only at hr
  rw [Sem.run_bind, Sem.run_pure, Result.andThen_ok] at hr
  simp only [Bool.false_eq_true, if_false, Bool.not_false, if_true, false_or] at hr
  revert hr
  refine fun hr => (?_ : Gives w.heap.size (fun v => v.ownBlock = some bb ∨ ∃ q, v.ownBlock = some q ∧ w.heap.size ≤ q) _) P w1 w' v e1 hr
  repeat' first
      | exact gives_last (.inl rfl)
      | exact gives_never (never_error _)
      | refine gives_tame (tame_lenOf _) fun _ => ?_
      | refine gives_tame (tame_typeInfo _) fun _ => ?_
      | refine gives_tame (tame_zero _) fun _ => ?_
      | refine gives_tame (tame_askRoom _) fun _ => ?_
      | refine gives_tame (tame_firstCells _ _ _) fun _ => ?_
      | refine gives_tame (e := choose _) (fun _ => trivial) fun _ => ?_
      | exact gives_bind (keeps_newRow _ _ _) fun a ha => gives_pure (.inr ⟨_, rfl, ha⟩)
      | exact gives_never (never_bind fun _ => never_ite (never_bind fun _ => never_halt) never_halt)
      | refine gives_ite ?_ ?_
/-! a slice's place -/
def bl (A : Option Addr) : Nat := (A.getD ⟨0, 0, none⟩).block
def of (A : Option Addr) : Nat := (A.getD ⟨0, 0, none⟩).off
/-- from the place A on lie the rows of xs, in a block of type t -/
structure SqA {α : Type} (w : World) (t : TypeId) (sz : Nat) (en : α → List Value) (A : Option Addr) (xs : List α) : Prop where
  nn : 0 < xs.length → A = some ⟨bl A, of A, none⟩
  tag : 0 < xs.length → ∃ cs fz, w.heap[bl A]? = some (.cells cs t fz)
  get : ∀ {i : Nat} {x : α}, xs[i]? = some x → CellsAt w (bl A) (of A + i * sz) (en x)
theorem pos_of_get {α : Type} {xs : List α} {i : Nat} {x : α} (h : xs[i]? = some x) : 0 < xs.length := Nat.lt_of_le_of_lt (Nat.zero_le _) (List.getElem?_eq_some_iff.1 h).1
theorem CellsAt.part {w : World} {b o : Nat} {l : List Value} (h : CellsAt w b o l) (i n : Nat) : CellsAt w b (o + i) ((l.drop i).take n) := fun j u hj => by
  rw [List.getElem?_take] at hj
  split at hj
  · rw [List.getElem?_drop] at hj
    rw [Nat.add_assoc]
    exact h _ _ hj
  · cases hj
/-- the slice v holds the rows of xs -/
def Sq {α : Type} (w : World) (t : TypeId) (sz : Nat) (en : α → List Value) (v : Value) (xs : List α) : Prop := ∃ A c, v = .slice A xs.length c ∧ xs.length ≤ c ∧ c ≤ 9223372036854775807 ∧ SqA w t sz en A xs
section
variable {P : Program} {s : Env} {C : World → Prop} {d : Option Nat} {ty : TypeId} {pos : String} {af : Array Edge} {gd : Option (Nat × Bool)}
/-- x[l:h] -/
def cutA (A : Option Addr) (cap l sz : Nat) : Option Addr := if cap = l then A else A.map (·.add (l * sz))
theorem ev_slice {t e sz : Nat} {x : Operand} {lo hi : Option Operand} {A : Option Addr} {len cap : Nat} {l h : Nat} (hx : evE s x = some (.slice A len cap)) (hu : P.underlying t = some (.slice e)) (hs : sizeB P e sz = true)
    (hl : match lo with | none => l = 0 | some o => evE s o = some (.int .i64 (l : Int))) (hh : match hi with | none => h = len | some o => evE s o = some (.int .i64 (h : Int))) (h1 : l ≤ h) (h2 : h ≤ cap) :
    Ev P s C ⟨d, .slice t x lo hi none, ty, pos, af, gd⟩ (.slice (cutA A cap l sz) (h - l) (cap - l)) := fun ρ hρ w _ => by
  have e1 : (Instr.sliceBounds true len cap (lo.map ρ) (hi.map ρ) none).run P w = .ok (l, h, cap) w := by
    have b1 : ∀ code, (Instr.sliceBound (.int .i64 (l : Int)) h code).run P w = .ok l w := fun code => by
      have := run_sliceBound (P := P) w .i64 (l : Int) h code (by omega) (by omega)
      simpa using this
    have b2 : ∀ code, (Instr.sliceBound (.int .i64 (h : Int)) cap code).run P w = .ok h w := fun code => by
      have := run_sliceBound (P := P) w .i64 (h : Int) cap code (by omega) (by omega)
      simpa using this
    cases lo with
    | none =>
      cases hi with
      | none => simp only at hl hh; subst hl hh; simp [Instr.sliceBounds]
      | some y => simp only at hl hh; subst hl; simp [Instr.sliceBounds, hρ y _ hh, b2]
    | some x =>
      cases hi with
      | none => simp only at hl hh; subst hh; simp [Instr.sliceBounds, hρ x _ hl, b1]
      | some y => simp only at hl hh; simp [Instr.sliceBounds, hρ x _ hl, hρ y _ hh, b1, b2]
  unfold execOp
  simp only [hρ x _ hx, Instr.sliceAt, Instr.slice, Sem.run_bind, run_underlying hu, Result.andThen_ok, Option.map_none, e1, sizeB_run hs w, Sem.run_pure]
  rfl
end
section
variable {P : Program} {n : Nat} {ops : Array Oper} {K : Cont} {s : Env} {w : World} {rest : List Oper} {d : Nat} {ty : TypeId} {pos : String} {af : Array Edge} {gd : Option (Nat × Bool)}
theorem setCell_blk {b o : Nat} {t : TypeId} {old : Array Value} {v : Value} (h : Blk w b t old) : Blk (w.setCell ⟨b, o, none⟩ v) b t (old.setIfInBounds o v) := by
  unfold Blk at h ⊢
  unfold World.setCell
  simp only [Array.getElem?_modify, if_true, h, Option.map_some]
  rfl
/-- a row written over from o on -/
def ow (old : Array Value) : Nat → List Value → Array Value
  | _, [] => old
  | o, v :: r => ow (old.setIfInBounds o v) (o + 1) r
theorem ow_size : ∀ (cs : List Value) (old : Array Value) (o : Nat), (ow old o cs).size = old.size
  | [], _, _ => rfl
  | v :: r, old, o => by show (ow (old.setIfInBounds o v) (o + 1) r).size = _; rw [ow_size r]; simp
theorem ow_get : ∀ (cs : List Value) (old : Array Value) (o j : Nat), o + cs.length ≤ old.size → (ow old o cs)[j]? = if o ≤ j ∧ j < o + cs.length then cs[j - o]? else old[j]?
  | [], old, o, j, _ => by rw [if_neg (by simp)]; rfl
  | v :: r, old, o, j, h => by
    simp only [List.length_cons] at h
    show (ow (old.setIfInBounds o v) (o + 1) r)[j]? = _
    rw [ow_get r _ _ _ (by simp; omega)]
    by_cases e : j = o
    · subst e
      rw [if_neg (by omega), if_pos (by simp)]
      simp [show j < old.size by omega]
    · simp only [List.length_cons]
      by_cases h2 : o + 1 ≤ j ∧ j < o + 1 + r.length
      · rw [if_pos h2, if_pos (by omega), show j - o = (j - (o + 1)) + 1 by omega, List.getElem?_cons_succ]
      · rw [if_neg h2, if_neg (by omega), Array.getElem?_setIfInBounds_ne (by omega)]
theorem run_storeCells_blk {t : TypeId} : ∀ (cs : List Value) (w : World) (b o i : Nat) (old : Array Value), Blk w b t old → o + i + cs.length ≤ old.size → cs.all (·.oneCell') = true →
    ∃ w', (storeCells ⟨b, o, none⟩ cs i).run P w = .ok () w' ∧ Fr (· = b) w w' ∧ Blk w' b t (ow old (o + i) cs)
  | [], w, b, o, i, old, hb, _, _ => ⟨w, by unfold storeCells; rfl, Fr.refl _ _, hb⟩
  | v :: r, w, b, o, i, old, hb, hl, h1 => by
    simp only [List.all_cons, Bool.and_eq_true] at h1
    simp only [List.length_cons] at hl
    have hlt : o + i < old.size := by omega
    have hst : (store (⟨b, o + i, none⟩ : Addr) v).run P w = .ok () (w.setCell ⟨b, o + i, none⟩ v) := by
      rw [run_store P w _ _ _ h1.1]
      simp [hb.cells (o + i), hb.free (o + i), hlt]
    obtain ⟨w', e1, e2, e3⟩ := run_storeCells_blk r (w.setCell ⟨b, o + i, none⟩ v) b o (i + 1) (old.setIfInBounds (o + i) v) (setCell_blk hb) (by simp; omega) h1.2
    refine ⟨w', ?_, (setCell_fr w b (o + i) v).trans e2, e3⟩
    unfold storeCells
    simp only [at_add', Sem.run_bind, hst, Result.andThen_ok, e1]
end
end Go.Proofs.Ytmbaennilhdieaa
