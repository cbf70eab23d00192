/- The walk by small steps: slices by their list, frames by the blocks' types, growing rows, maps. Over any program. -/
import Derived.Test.YtmbaennilhdieaaEng4
import Derived.Laws.AppendOwn
import Derived.Laws.MakeOwn
import Derived.Laws.OwnMore
namespace Go.Proofs.Ytmbaennilhdieaa
open Go.RowKit

/-! where an appended slice lies -/
def Keeps {α : Type} (h : Nat) (Q : α → Prop) (e : Sem α) : Prop := ∀ (P : Program) (w w' : World) (a : α), h ≤ w.heap.size → e.run P w = .ok a w' → Q a ∧ h ≤ w'.heap.size
def Gives {α : Type} (h : Nat) (Q : α → Prop) (e : Sem α) : Prop := ∀ (P : Program) (w w' : World) (a : α), h ≤ w.heap.size → e.run P w = .ok a w' → Q a
theorem keeps_tame {α : Type} {h : Nat} {e : Sem α} (ht : Tame e) : Keeps h (fun _ => True) e := fun _ _ _ _ hw hr => ⟨trivial, Nat.le_trans hw (tame_run ht hr).size⟩
theorem bind_ok {α β : Type} {P : Program} {e : Sem α} {f : α → Sem β} {w w' : World} {b : β} (h : (e >>= f).run P w = .ok b w') : ∃ a w1, e.run P w = .ok a w1 ∧ (f a).run P w1 = .ok b w' := by
  rw [Sem.run_bind] at h
  cases he : e.run P w with
  | ok a w1 => rw [he, Result.andThen_ok] at h; exact ⟨a, w1, rfl, h⟩
  | halt q w1 => rw [he] at h; simp [Result.andThen] at h
theorem gives_bind {α β : Type} {h : Nat} {Q1 : α → Prop} {Q : β → Prop} {e : Sem α} {f : α → Sem β} (he : Keeps h Q1 e) (hf : ∀ a, Q1 a → Gives h Q (f a)) : Gives h Q (e >>= f) := fun P w w' b hw hr => by
  obtain ⟨a, w1, h1, h2⟩ := bind_ok hr
  obtain ⟨h3, h4⟩ := he P w w1 a hw h1
  exact hf a h3 P w1 w' b h4 h2
theorem gives_tame {α β : Type} {h : Nat} {Q : β → Prop} {e : Sem α} {f : α → Sem β} (he : Tame e) (hf : ∀ a, Gives h Q (f a)) : Gives h Q (e >>= f) := gives_bind (keeps_tame he) fun a _ => hf a
theorem gives_pure {α : Type} {h : Nat} {Q : α → Prop} {a : α} (hq : Q a) : Gives h Q (pure a) := fun P w w' b _ hr => by
  simp only [Sem.run_pure, Result.ok.injEq] at hr; rw [← hr.1]; exact hq
theorem gives_last {α β : Type} {h : Nat} {Q : β → Prop} {e : Sem α} {v : β} (hq : Q v) : Gives h Q (e >>= fun _ => pure v) := fun P w w' b _ hr => by
  obtain ⟨a, w1, h1, h2⟩ := bind_ok hr
  simp only [Sem.run_pure, Result.ok.injEq] at h2; rw [← h2.1]; exact hq
theorem gives_halt {α : Type} {h : Nat} {Q : α → Prop} {x : Halt} : Gives h Q (.halt x : Sem α) := fun P w w' b _ hr => by simp [Sem.run] at hr
theorem gives_ite {α : Type} {h : Nat} {Q : α → Prop} {c : Prop} [Decidable c] {x y : Sem α} (hx : Gives h Q x) (hy : Gives h Q y) : Gives h Q (if c then x else y) := by split <;> assumption
theorem tame_loadCells (a : Addr) (n : Nat) : Tame (loadCells a n) := tame_loadCellsFrom a n 0 #[]
theorem tame_firstCells (sz n : Nat) (v : Value) : Tame (Builtin.firstCells sz n v) := by unfold Builtin.firstCells; split <;> first | exact tame_loadCells _ _ | trivial
def Never {α : Type} (e : Sem α) : Prop := ∀ (P : Program) (w w' : World) (a : α), e.run P w ≠ .ok a w'
theorem never_halt {α : Type} {x : Halt} : Never (.halt x : Sem α) := fun P w w' a h => by simp [Sem.run] at h
theorem never_bind {α β : Type} {e : Sem α} {f : α → Sem β} (hf : ∀ a, Never (f a)) : Never (e >>= f) := fun P w w' b hr => by
  obtain ⟨a, w1, h1, h2⟩ := bind_ok hr
  exact hf a P w1 w' b h2
theorem never_ite {α : Type} {c : Prop} [Decidable c] {x y : Sem α} (hx : Never x) (hy : Never y) : Never (if c then x else y) := by split <;> assumption
theorem never_error {α : Type} (m : String) : Never (runtimePanic (.error m) : Sem α) := never_bind fun _ => never_halt
theorem gives_never {α β : Type} {h : Nat} {Q : β → Prop} {e : Sem α} {f : α → Sem β} (he : Never e) : Gives h Q (e >>= f) := fun P w w' b hw hr => by
  obtain ⟨a, w1, h1, h2⟩ := bind_ok hr
  exact absurd h1 (he P w w1 a)
theorem tame_askRoom (n : Nat) : Tame (askRoom n) := by unfold askRoom; split <;> trivial
theorem tame_lenOf (v : Value) : Tame (Builtin.lenOf v) := by unfold Builtin.lenOf; split <;> trivial
theorem keeps_newRow (h : Nat) (e : TypeId) (cs : Array Value) : Keeps h (fun a => h ≤ a.block) (newRow e cs) := fun P w w' a hw hr => by
  have h1 : (newRow e cs).run P w = .ok ⟨w.heap.size, 0, none⟩ (w.alloc (.cells cs e)) := rfl
  rw [h1] at hr
  simp only [Result.ok.injEq] at hr
  obtain ⟨rfl, rfl⟩ := hr
  exact ⟨hw, by simp; omega⟩
theorem app_block {P : Program} {t ty e : TypeId} {bb n cap : Nat} {x v : Value} {w w' : World} (ht : P.underlying t = some (.slice e)) (hr : (Builtin.append_ #[t, t] ty #[.slice (some ⟨bb, 0, none⟩) n cap, x]).run P w = .ok v w') : v.ownBlock = some bb ∨ ∃ q, v.ownBlock = some q ∧ w.heap.size ≤ q := by
  unfold Builtin.append_ at hr
  simp only [List.getElem?_toArray, List.getElem?_cons_zero, List.getElem?_cons_succ] at hr
  rw [Sem.run_bind, run_underlying ht, Result.andThen_ok] at hr
  dsimp only at hr
  obtain ⟨sz, w1, h1, hr⟩ := bind_ok hr
  have e1 := (tame_run (tame_sizeOf _) h1).size
  rw [Sem.run_bind, run_underlying ht, Result.andThen_ok] at hr
  dsimp only at hr
  rw [Sem.run_bind, Sem.run_pure, Result.andThen_ok] at hr
  simp only [Bool.false_eq_true, if_false, Bool.not_false, if_true, false_or] at hr
  revert hr
  refine fun hr => (?_ : Gives w.heap.size (fun v => v.ownBlock = some bb ∨ ∃ q, v.ownBlock = some q ∧ w.heap.size ≤ q) _) P w1 w' v e1 hr
  repeat' first
      | exact gives_last (.inl rfl)
      | exact gives_never (never_error _)
      | refine gives_tame (tame_lenOf _) fun _ => ?_
      | refine gives_tame (tame_typeInfo _) fun _ => ?_
      | refine gives_tame (tame_zero _) fun _ => ?_
      | refine gives_tame (tame_askRoom _) fun _ => ?_
      | refine gives_tame (tame_firstCells _ _ _) fun _ => ?_
      | refine gives_tame (e := choose _) (fun _ => trivial) fun _ => ?_
      | exact gives_bind (keeps_newRow _ _ _) fun a ha => gives_pure (.inr ⟨_, rfl, ha⟩)
      | exact gives_never (never_bind fun _ => never_ite (never_bind fun _ => never_halt) never_halt)
      | refine gives_ite ?_ ?_
theorem nd_true {p : Prop} [Decidable p] (h : (!decide p) = true) : ¬ p := by simpa using h
theorem nd_false {p : Prop} [Decidable p] (h : (!decide p) = false) : p := by simpa using h
theorem nb_true {b : Bool} (h : (!b) = true) : b = false := by simpa using h
theorem nb_false {b : Bool} (h : (!b) = false) : b = true := by simpa using h
/-- several ways meet again -/
theorem W_seqj {P : Program} {n : Nat} {K : Cont} {s : Env} {w : World} {x y : Code} {ι : Type} (E : ι → Env) (J : ι → World → Prop) (h1 : Wp P n x (nxt (fun s w => ∃ i, Sub s (E i) ∧ J i w) K) s w) (h2 : ∀ i w, J i w → Wp P n y K (E i) w) : Wp P n (.seq x y) K s w := by
  intro a ha
  refine wp_seq (wp_mono (h1 a ha) ?_)
  rintro e a' w' ⟨s', hf, hk⟩
  cases e with
  | normal =>
    obtain ⟨i, g1, g2⟩ := hk
    exact h2 i w' g2 a' (hf.sub g1)
  | _ => exact ⟨s', hf, hk⟩
/-! a slice's place -/
def bl (A : Option Addr) : Nat := (A.getD ⟨0, 0, none⟩).block
def of (A : Option Addr) : Nat := (A.getD ⟨0, 0, none⟩).off
/-- from the place A on lie the rows of xs, in a block of type t -/
structure SqA {α : Type} (w : World) (t : TypeId) (sz : Nat) (en : α → List Value) (A : Option Addr) (xs : List α) : Prop where
  nn : 0 < xs.length → A = some ⟨bl A, of A, none⟩
  tag : 0 < xs.length → ∃ cs fz, w.heap[bl A]? = some (.cells cs t fz)
  get : ∀ {i : Nat} {x : α}, xs[i]? = some x → CellsAt w (bl A) (of A + i * sz) (en x)
theorem SqA.lt {α : Type} {w : World} {t : TypeId} {sz : Nat} {en : α → List Value} {A : Option Addr} {xs : List α} (h : SqA w t sz en A xs) (h0 : 0 < xs.length) : bl A < w.heap.size := by
  obtain ⟨cs, fz, hh⟩ := h.tag h0
  rcases Nat.lt_or_ge (bl A) w.heap.size with hlt | hge
  · exact hlt
  · rw [Array.getElem?_eq_none hge] at hh; cases hh
theorem pos_of_get {α : Type} {xs : List α} {i : Nat} {x : α} (h : xs[i]? = some x) : 0 < xs.length := Nat.lt_of_le_of_lt (Nat.zero_le _) (List.getElem?_eq_some_iff.1 h).1
theorem SqA.ext {α : Type} {w w' : World} {t : TypeId} {sz : Nat} {en : α → List Value} {A : Option Addr} {xs : List α} (h : SqA w t sz en A xs) (hx : Ext w w') : SqA w' t sz en A xs :=
  ⟨h.nn, fun h0 => by obtain ⟨cs, fz, hh⟩ := h.tag h0; exact ⟨cs, fz, (hx.block _ (h.lt h0)).trans hh⟩, fun hi => (h.get hi).ext (h.lt (pos_of_get hi)) hx⟩
theorem SqA.fr {α : Type} {S : Nat → Prop} {w w' : World} {t : TypeId} {sz : Nat} {en : α → List Value} {A : Option Addr} {xs : List α} (h : SqA w t sz en A xs) (hx : Fr S w w') (hn : 0 < xs.length → ¬ S (bl A)) : SqA w' t sz en A xs :=
  ⟨h.nn, fun h0 => by obtain ⟨cs, fz, hh⟩ := h.tag h0; exact ⟨cs, fz, (hx.block _ (h.lt h0) (hn h0)).trans hh⟩, fun hi => (h.get hi).fr (h.lt (pos_of_get hi)) hx (hn (pos_of_get hi))⟩
theorem SqA.frT {α : Type} {w w' : World} {t : TypeId} {sz : Nat} {en : α → List Value} {A : Option Addr} {xs : List α} {b : Nat} {tb : TypeId} {old : Array Value} (h : SqA w t sz en A xs) (hx : Fr (· = b) w w') (hb : Blk w b tb old) (hne : t ≠ tb) : SqA w' t sz en A xs :=
  h.fr hx fun h0 e => by
    obtain ⟨cs, fz, hh⟩ := h.tag h0
    unfold Blk at hb
    rw [e, hb] at hh
    cases hh
    exact hne rfl
theorem Blk.frT {w w' : World} {b c : Nat} {tb tc : TypeId} {old cs : Array Value} (h : Blk w c tc cs) (hx : Fr (· = b) w w') (hb : Blk w b tb old) (hne : tc ≠ tb) : Blk w' c tc cs :=
  h.fr hx fun e => by
    unfold Blk at hb h
    rw [e, hb] at h
    cases h
    exact hne rfl
theorem sqA_nil {α : Type} (w : World) (t : TypeId) (sz : Nat) (en : α → List Value) (A : Option Addr) : SqA w t sz en A ([] : List α) := ⟨fun h => absurd h (by simp), fun h => absurd h (by simp), fun h => by simp at h⟩
theorem CellsAt.part {w : World} {b o : Nat} {l : List Value} (h : CellsAt w b o l) (i n : Nat) : CellsAt w b (o + i) ((l.drop i).take n) := fun j u hj => by
  rw [List.getElem?_take] at hj
  split at hj
  · rw [List.getElem?_drop] at hj
    rw [Nat.add_assoc]
    exact h _ _ hj
  · cases hj
/-- the slice v holds the rows of xs -/
def Sq {α : Type} (w : World) (t : TypeId) (sz : Nat) (en : α → List Value) (v : Value) (xs : List α) : Prop := ∃ A c, v = .slice A xs.length c ∧ xs.length ≤ c ∧ c ≤ 9223372036854775807 ∧ SqA w t sz en A xs
theorem Sq.ext {α : Type} {w w' : World} {t : TypeId} {sz : Nat} {en : α → List Value} {v : Value} {xs : List α} (h : Sq w t sz en v xs) (hx : Ext w w') : Sq w' t sz en v xs := by
  obtain ⟨A, c, h1, h2, h3, h4⟩ := h
  exact ⟨A, c, h1, h2, h3, h4.ext hx⟩

section
variable {P : Program} {s : Env} {C : World → Prop} {d : Option Nat} {ty : TypeId} {pos : String} {af : Array Edge} {gd : Option (Nat × Bool)}
theorem ev_idxA {t e sz : Nat} {x i : Operand} {A : Option Addr} {len cap : Nat} {k : Int} (hx : evE s x = some (.slice A len cap)) (hi : evE s i = some (.int .i64 k)) (hu : P.underlying t = some (.slice e)) (hs : sizeB P e sz = true) (hA : 0 < len → A = some ⟨bl A, of A, none⟩) (h0 : 0 ≤ k) (h1 : k < len) : Ev P s C ⟨d, .indexAddr t x i, ty, pos, af, gd⟩ (.pointer (some ⟨bl A, of A + k.toNat * sz, none⟩)) := by
  have hp : 0 < len := by omega
  exact ev_idx (hA hp ▸ hx) hi hu hs h0 h1
/-- x[l:h] -/
def cutA (A : Option Addr) (cap l sz : Nat) : Option Addr := if cap = l then A else A.map (·.add (l * sz))
theorem ev_slice {t e sz : Nat} {x : Operand} {lo hi : Option Operand} {A : Option Addr} {len cap : Nat} {l h : Nat} (hx : evE s x = some (.slice A len cap)) (hu : P.underlying t = some (.slice e)) (hs : sizeB P e sz = true)
    (hl : match lo with | none => l = 0 | some o => evE s o = some (.int .i64 (l : Int))) (hh : match hi with | none => h = len | some o => evE s o = some (.int .i64 (h : Int))) (h1 : l ≤ h) (h2 : h ≤ cap) :
    Ev P s C ⟨d, .slice t x lo hi none, ty, pos, af, gd⟩ (.slice (cutA A cap l sz) (h - l) (cap - l)) := fun ρ hρ w _ => by
  have e1 : (Instr.sliceBounds true len cap (lo.map ρ) (hi.map ρ) none).run P w = .ok (l, h, cap) w := by
    have b1 : ∀ code, (Instr.sliceBound (.int .i64 (l : Int)) h code).run P w = .ok l w := fun code => by
      have := run_sliceBound (P := P) w .i64 (l : Int) h code (by omega) (by omega)
      simpa using this
    have b2 : ∀ code, (Instr.sliceBound (.int .i64 (h : Int)) cap code).run P w = .ok h w := fun code => by
      have := run_sliceBound (P := P) w .i64 (h : Int) cap code (by omega) (by omega)
      simpa using this
    cases lo with
    | none =>
      cases hi with
      | none => simp only at hl hh; subst hl hh; simp [Instr.sliceBounds]
      | some y => simp only at hl hh; subst hl; simp [Instr.sliceBounds, hρ y _ hh, b2]
    | some x =>
      cases hi with
      | none => simp only at hl hh; subst hh; simp [Instr.sliceBounds, hρ x _ hl, b1]
      | some y => simp only at hl hh; simp [Instr.sliceBounds, hρ x _ hl, hρ y _ hh, b1, b2]
  unfold execOp
  simp only [hρ x _ hx, Instr.sliceAt, Instr.slice, Sem.run_bind, run_underlying hu, Result.andThen_ok, Option.map_none, e1, sizeB_run hs w, Sem.run_pure]
  rfl
end
/-- a part of a slice -/
theorem SqA.cut {α : Type} {w : World} {t : TypeId} {sz : Nat} {en : α → List Value} {A : Option Addr} {xs : List α} (h : SqA w t sz en A xs) (l n cap : Nat) (hc : xs.length ≤ cap) : SqA w t sz en (cutA A cap l sz) ((xs.drop l).take n) := by
  by_cases h0 : 0 < ((xs.drop l).take n).length
  · have hl : l < xs.length := by simp at h0; omega
    have hA := h.nn (by omega)
    have hcl : ¬ cap = l := by omega
    have e : cutA A cap l sz = some ⟨bl A, of A + l * sz, none⟩ := by
      unfold cutA
      rw [if_neg hcl, hA]
      simp [at_add', bl, of]
    rw [e]
    refine ⟨fun _ => rfl, fun _ => h.tag (by omega), fun {i x} hi => ?_⟩
    rw [List.getElem?_take] at hi
    split at hi
    · rw [List.getElem?_drop] at hi
      have := h.get hi
      show CellsAt w (bl A) (of A + l * sz + i * sz) (en x)
      rw [Nat.add_assoc, ← Nat.add_mul]
      exact this
    · cases hi
  · have : (xs.drop l).take n = [] := List.eq_nil_of_length_eq_zero (by omega)
    rw [this]
    exact sqA_nil ..

section
variable {P : Program} {n : Nat} {ops : Array Oper} {K : Cont} {s : Env} {w : World} {rest : List Oper} {d : Nat} {ty : TypeId} {pos : String} {af : Array Edge} {gd : Option (Nat × Bool)}
theorem A_bslice {t e : TypeId} {m : Nat} {ps : List (Nat × Operand)} {vs : List (Nat × Value)} {v : Value} {cs : Array Value} (hp : evp s ps = some vs) (hr : (Instr.buildSlice t m vs.toArray).run P w = .ok v (w.alloc (.cells cs e))) (hg : guardE ops s ⟨some d, .buildSlice t m ps.toArray, ty, pos, af, gd⟩ = some true) (hd : Nat.ble (d + 1) n = true)
    (k : ∀ w', Ext w w' → Blk w' w.heap.size e cs → RunE P n ops rest K ((d, v) :: s) w') : RunE P n ops (⟨some d, .buildSlice t m ps.toArray, ty, pos, af, gd⟩ :: rest) K s w :=
  R_bslice hp hr hg hd (k _ ((Ext.refl w).alloc _) (Blk.new w e cs))
theorem setCell_blk {b o : Nat} {t : TypeId} {old : Array Value} {v : Value} (h : Blk w b t old) : Blk (w.setCell ⟨b, o, none⟩ v) b t (old.setIfInBounds o v) := by
  unfold Blk at h ⊢
  unfold World.setCell
  simp only [Array.getElem?_modify, if_true, h, Option.map_some]
  rfl
/-- a store into one cell of a block that is known whole -/
theorem A_storeAt {t : TypeId} {x y : Operand} {b o : Nat} {v u : Value} {bt : TypeId} {old : Array Value} (hx : evE s x = some (.pointer (some ⟨b, o, none⟩))) (hy : evE s y = some v) (hb : Blk w b bt old) (ho : old[o]? = some u) (h1 : v.oneCell' = true) (hu : sizeB P t 1 = true)
    (hg : guardE ops s ⟨none, .store t x y, ty, pos, af, gd⟩ = some true) (k : ∀ w', Fr (· = b) w w' → Blk w' b bt (old.setIfInBounds o v) → RunE P n ops rest K s w') : RunE P n ops (⟨none, .store t x y, ty, pos, af, gd⟩ :: rest) K s w :=
  A_store1 hx hy ((hb.cells o).trans ho) (hb.free o) h1 hu hg (k _ (setCell_fr w b o v) (setCell_blk hb))
/-- a row written over from o on -/
def ow (old : Array Value) : Nat → List Value → Array Value
  | _, [] => old
  | o, v :: r => ow (old.setIfInBounds o v) (o + 1) r
theorem ow_size : ∀ (cs : List Value) (old : Array Value) (o : Nat), (ow old o cs).size = old.size
  | [], _, _ => rfl
  | v :: r, old, o => by show (ow (old.setIfInBounds o v) (o + 1) r).size = _; rw [ow_size r]; simp
theorem ow_get : ∀ (cs : List Value) (old : Array Value) (o j : Nat), o + cs.length ≤ old.size → (ow old o cs)[j]? = if o ≤ j ∧ j < o + cs.length then cs[j - o]? else old[j]?
  | [], old, o, j, _ => by rw [if_neg (by simp)]; rfl
  | v :: r, old, o, j, h => by
    simp only [List.length_cons] at h
    show (ow (old.setIfInBounds o v) (o + 1) r)[j]? = _
    rw [ow_get r _ _ _ (by simp; omega)]
    by_cases e : j = o
    · subst e
      rw [if_neg (by omega), if_pos (by simp)]
      simp [show j < old.size by omega]
    · simp only [List.length_cons]
      by_cases h2 : o + 1 ≤ j ∧ j < o + 1 + r.length
      · rw [if_pos h2, if_pos (by omega), show j - o = (j - (o + 1)) + 1 by omega, List.getElem?_cons_succ]
      · rw [if_neg h2, if_neg (by omega), Array.getElem?_setIfInBounds_ne (by omega)]
theorem run_storeCells_blk {t : TypeId} : ∀ (cs : List Value) (w : World) (b o i : Nat) (old : Array Value), Blk w b t old → o + i + cs.length ≤ old.size → cs.all (·.oneCell') = true →
    ∃ w', (storeCells ⟨b, o, none⟩ cs i).run P w = .ok () w' ∧ Fr (· = b) w w' ∧ Blk w' b t (ow old (o + i) cs)
  | [], w, b, o, i, old, hb, _, _ => ⟨w, by unfold storeCells; rfl, Fr.refl _ _, hb⟩
  | v :: r, w, b, o, i, old, hb, hl, h1 => by
    simp only [List.all_cons, Bool.and_eq_true] at h1
    simp only [List.length_cons] at hl
    have hlt : o + i < old.size := by omega
    have hst : (store (⟨b, o + i, none⟩ : Addr) v).run P w = .ok () (w.setCell ⟨b, o + i, none⟩ v) := by
      rw [run_store P w _ _ _ h1.1]
      simp [hb.cells (o + i), hb.free (o + i), hlt]
    obtain ⟨w', e1, e2, e3⟩ := run_storeCells_blk r (w.setCell ⟨b, o + i, none⟩ v) b o (i + 1) (old.setIfInBounds (o + i) v) (setCell_blk hb) (by simp; omega) h1.2
    refine ⟨w', ?_, (setCell_fr w b (o + i) v).trans e2, e3⟩
    unfold storeCells
    simp only [at_add', Sem.run_bind, hst, Result.andThen_ok, e1]
/-- a row stored over a part of a block that is known whole -/
theorem A_storePart {t : TypeId} {x y : Operand} {b o : Nat} {cs : List Value} {bt : TypeId} {old : Array Value} (hx : evE s x = some (.pointer (some ⟨b, o, none⟩))) (hy : evE s y = some (.agg cs.toArray)) (hb : Blk w b bt old) (hu : sizeB P t cs.length = true) (ho : o + cs.length ≤ old.size) (h1 : cs.all (·.oneCell') = true)
    (hg : guardE ops s ⟨none, .store t x y, ty, pos, af, gd⟩ = some true) (k : ∀ w', Fr (· = b) w w' → Blk w' b bt (ow old o cs) → RunE P n ops rest K s w') : RunE P n ops (⟨none, .store t x y, ty, pos, af, gd⟩ :: rest) K s w := by
  obtain ⟨w', e1, e2, e3⟩ := run_storeCells_blk (P := P) cs w b o 0 old hb ho h1
  refine R_unit (w' := w') (fun ρ hρ => ?_) hg (k w' e2 e3)
  unfold execOp
  simp only [hρ x _ hx, hρ y _ hy, Instr.storeAt, Instr.sureAddr, storeVar, Sem.run_bind, Sem.run_pure, Result.andThen_ok, sizeB_run hu w, Value.cells, List.size_toArray, ne_eq, not_true, if_false, e1]
/-- append to a row of one's own -/
theorem A_append {x y : Operand} {t e : TypeId} {base m c sz k by_ : Nat} {i : TypeInfo} {z v : Value} {xs news : List Value} {b o : Nat} (hx : evE s x = some v) (hy : evE s y = some (.slice (some ⟨b, o, none⟩) m c)) (ht : P.underlying t = some (.slice e)) (hi : P.info? e = some i) (hz : i.zero = some z) (hsz : i.size = sz) (hby : i.bytes = by_) (hzs : z.cells.size = sz) (h0 : 0 < sz)
    (hown : w.ownsRow base e sz v k xs) (hnews : CellsAt w b o news) (hl : news.length = m * sz) (h1 : news.all (·.oneCell') = true) (h63 : k + m ≤ maxLen) (hb : (k + m) * by_ ≤ 140737488355328) (hbase : base ≤ w.heap.size)
    (hg : guardE ops s ⟨some d, .call ⟨.builtin .append, #[x, y], #[t, t]⟩, ty, pos, af, gd⟩ = some true) (hd : Nat.ble (d + 1) n = true)
    (kk : ∀ v' w', w'.ownsRow base e sz v' (k + m) (xs ++ news) → Fr (fun q => v.ownBlock = some q) w w' → (∀ q, v'.ownBlock = some q → v.ownBlock = some q ∨ w.heap.size ≤ q) → RunE P n ops rest K ((d, v') :: s) w') : RunE P n ops (⟨some d, .call ⟨.builtin .append, #[x, y], #[t, t]⟩, ty, pos, af, gd⟩ :: rest) K s w := by
  obtain ⟨v', w', e1, e2, e3, -⟩ := run_append_own w base t ty e i z sz by_ ht hi hz hsz hby hzs h0 v k xs hown ⟨b, o, none⟩ m c news hl (fun j u hj => by rw [at_add']; exact hnews j u hj) (by simpa using h1) h63 hb hbase
  refine R_do (v := v') (w' := w') (fun ρ hρ => ?_) hg hd (kk v' w' e2 ⟨e3.os, e3.tape, e3.output, e3.size, fun q hq hs => e3.block q hq (fun h => hs h.symm)⟩ ?_)
  rw [run_builtin (P := P) (vs := [v, .slice (some ⟨b, o, none⟩) m c]) (by simp [hρ x _ hx, hρ y _ hy]) w]
  simp only [builtin, Sem.run_bind]
  have e1' : (Builtin.append_ #[t, t] ty [v, .slice (some ⟨b, o, none⟩) m c].toArray).run P w = .ok v' w' := e1
  rw [e1']
  rfl
  intro q hq
  rcases hown.2 with ⟨rfl, rfl⟩ | ⟨g, cap, cur, rfl, -⟩
  · rcases Nat.lt_or_ge q w.heap.size with h | h
    · exfalso
      obtain ⟨v2, w2, e1', e2', -⟩ := run_append_own w w.heap.size t ty e i z sz by_ ht hi hz hsz hby hzs h0 (.slice none 0 0) 0 [] (World.ownsRow_nil ..) ⟨b, o, none⟩ m c news hl (fun j u hj => by rw [at_add']; exact hnews j u hj) (by simpa using h1) h63 hb (Nat.le_refl _)
      rw [e1] at e1'
      simp only [Result.ok.injEq] at e1'
      obtain ⟨rfl, rfl⟩ := e1'
      have := (World.ownsRow.lt e2' q hq).1
      omega
    · exact .inr h
  · rcases app_block ht e1 with h | ⟨q', h, h'⟩
    · rw [h] at hq; cases hq; exact .inl rfl
    · rw [h] at hq; cases hq; exact .inr h'
/-- make of a full row -/
theorem A_make {x y : Operand} {t e : TypeId} {i : TypeInfo} {z : Value} {l : Nat} {sz : Nat} (hx : evE s x = some (.int .i64 (l : Int))) (hy : evE s y = some (.int .i64 (l : Int))) (ht : P.underlying t = some (.slice e)) (hi : P.info? e = some i) (hz : i.zero = some z) (hsz : i.size = sz) (hb : i.bytes * l ≤ 281474976710656) (h63 : l ≤ 9223372036854775807)
    (hg : guardE ops s ⟨some d, .makeSlice t x y, ty, pos, af, gd⟩ = some true) (hd : Nat.ble (d + 1) n = true)
    (kk : ∀ w', Ext w w' → Blk w' w.heap.size e (madeCells z.cells (l * sz)) → RunE P n ops rest K ((d, .slice (some ⟨w.heap.size, 0, none⟩) l l) :: s) w') : RunE P n ops (⟨some d, .makeSlice t x y, ty, pos, af, gd⟩ :: rest) K s w := by
  subst hsz
  have e1 := run_make w t e i z ht hi hz .i64 .i64 (l : Int) (l : Int) (by omega) (Int.le_refl _) (by rw [← Int.natCast_mul]; omega) (by omega)
  simp only [Int.toNat_natCast] at e1
  exact R_do (fun ρ hρ => by unfold execOp; simp only [hρ x _ hx, hρ y _ hy, Sem.run_bind, e1, Result.andThen_ok]; rfl) hg hd (kk _ ((Ext.refl w).alloc _) (Blk.new w e _))
end
end Go.Proofs.Ytmbaennilhdieaa
