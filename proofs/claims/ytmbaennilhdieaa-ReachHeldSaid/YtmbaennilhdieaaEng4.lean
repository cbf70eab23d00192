/- A region that draws its order: operations that only read are taken first; what is left stands in a row. Over any program. -/
import Derived.Test.YtmbaennilhdieaaEng3
namespace Go.Proofs.Ytmbaennilhdieaa
open Go.RowKit

/-- no old block is written -/
def Tame {α : Type} : Sem α → Prop
  | .pure _ => True
  | .load _ _ k => ∀ v, Tame (k v)
  | .store .. => False
  | .new _ k => ∀ r, Tame (k r)
  | .shape _ k => ∀ s, Tame (k s)
  | .freeze .. => False
  | .frozen _ k => ∀ b, Tame (k b)
  | .getObj _ k => ∀ o, Tame (k o)
  | .setObj .. => False
  | .choose _ k => ∀ n, Tame (k n)
  | .sys .. => False
  | .program k => ∀ p, Tame (k p)
  | .mark _ k => Tame k
  | .halt _ => True
theorem tame_bind {α β : Type} {e : Sem α} {f : α → Sem β} (h : Tame e) (hf : ∀ a, Tame (f a)) : Tame (e >>= f) := by
  show Tame (Sem.bind e f)
  induction e with
  | pure a => exact hf a
  | load m a k ih => exact fun v => ih v (h v)
  | store m a v k ih => exact h.elim
  | new o k ih => exact fun v => ih v (h v)
  | shape r k ih => exact fun v => ih v (h v)
  | freeze a n k ih => exact h.elim
  | frozen a k ih => exact fun v => ih v (h v)
  | getObj r k ih => exact fun v => ih v (h v)
  | setObj r o k ih => exact h.elim
  | choose q k ih => exact fun v => ih v (h v)
  | sys c k ih => exact h.elim
  | program k ih => exact fun v => ih v (h v)
  | mark m k ih => exact ih h
  | halt x => trivial
theorem tame_run {α : Type} {P : Program} {e : Sem α} (h : Tame e) : ∀ {w w' : World} {x : α}, e.run P w = .ok x w' → Ext w w' := by
  induction e with
  | pure a => intro w w' x hr; simp only [Sem.run, Result.ok.injEq] at hr; obtain ⟨-, rfl⟩ := hr; exact Ext.refl _
  | load m a k ih =>
    intro w w' x hr
    simp only [Sem.run] at hr
    split at hr
    · exact ih _ (h _) hr
    · split at hr
      · exact ih _ (h _) hr
      · cases hr
  | store m a v k ih => exact h.elim
  | new o k ih => intro w w' x hr; simp only [Sem.run] at hr; exact ((Ext.refl w).alloc o).trans (ih _ (h _) hr)
  | shape r k ih => intro w w' x hr; simp only [Sem.run] at hr; exact ih _ (h _) hr
  | freeze a n k ih => exact h.elim
  | frozen a k ih => intro w w' x hr; simp only [Sem.run] at hr; exact ih _ (h _) hr
  | getObj r k ih =>
    intro w w' x hr
    simp only [Sem.run] at hr
    split at hr
    · cases hr
    · exact ih _ (h _) hr
    · cases hr
  | setObj r o k ih => exact h.elim
  | choose q k ih =>
    intro w w' x hr
    simp only [Sem.run] at hr
    split at hr
    · exact ih _ (h _) hr
    · exact (drew_ext w).trans (ih _ (h _) hr)
  | sys c k ih => exact h.elim
  | program k ih => intro w w' x hr; simp only [Sem.run] at hr; exact ih _ (h _) hr
  | mark m k ih => intro w w' x hr; simp only [Sem.run] at hr; exact ih h hr
  | halt x => intro w w' x hr; simp only [Sem.run] at hr; cases hr
theorem tame_pure {α : Type} (a : α) : Tame (pure a : Sem α) := trivial
theorem tame_stuck {α : Type} (s : String) : Tame (stuck s : Sem α) := trivial
theorem tame_unsup {α : Type} (s : Unsupported) : Tame (unsupported s : Sem α) := trivial
theorem tame_ite {α : Type} {c : Prop} [Decidable c] {x y : Sem α} (hx : Tame x) (hy : Tame y) : Tame (if c then x else y) := by split <;> assumption
theorem tame_typeInfo (t : TypeId) : Tame (typeInfo t) := by
  unfold typeInfo
  refine tame_bind (fun _ => trivial) fun p => ?_
  split <;> trivial
theorem tame_underlying (t : TypeId) : Tame (underlying t) := by
  unfold underlying
  refine tame_bind (fun _ => trivial) fun p => ?_
  split <;> trivial
theorem tame_sizeOf (t : TypeId) : Tame (sizeOf t) := tame_bind (tame_typeInfo t) fun _ => trivial
theorem tame_isAgg (t : TypeId) : Tame (isAgg t) := by
  unfold isAgg
  refine tame_bind (tame_underlying t) fun p => ?_
  split <;> trivial
theorem tame_load (a : Addr) : Tame (load a) := fun _ => trivial
theorem tame_loadCellsFrom (a : Addr) : ∀ (n i : Nat) (acc : Array Value), Tame (loadCellsFrom a i n acc)
  | 0, _, _ => trivial
  | n + 1, i, _ => tame_bind (tame_load _) fun _ => tame_loadCellsFrom a n (i + 1) _
theorem tame_loadVar (t : TypeId) (a : Addr) : Tame (loadVar t a) := by
  unfold loadVar
  refine tame_bind (tame_isAgg t) fun b => tame_ite (tame_bind (tame_sizeOf t) fun n => tame_bind (tame_loadCellsFrom a n 0 #[]) fun _ => trivial) (tame_load a)
theorem tame_sure (v : Value) : Tame (Instr.sureAddr v) := by unfold Instr.sureAddr; split <;> trivial
theorem tame_zero (t : TypeId) : Tame (zeroValue t) := by
  unfold zeroValue
  refine tame_bind (tame_typeInfo t) fun p => ?_
  split <;> trivial
theorem tame_newRow (e : TypeId) (cs : Array Value) : Tame (newRow e cs) := tame_bind (fun _ => trivial) fun _ => trivial
theorem tame_buildSlice (t : TypeId) (n : Nat) (ps : Array (Nat × Value)) : Tame (Instr.buildSlice t n ps) := by
  unfold Instr.buildSlice
  refine tame_bind (tame_underlying t) fun d => ?_
  split
  · rename_i el
    refine tame_bind (tame_sizeOf _) fun sz => ?_
    have hz : ∀ zero : Array Value, Tame (match Instr.fill (fun i => some (i * sz, sz)) (Array.map (fun x => zero[x % zero.size]!) (Array.range (n * sz))) ps.toList with
        | some cells => do
          let __do_lift ← newRow el cells
          pure (Value.slice (some __do_lift) n n)
        | _ => stuck "buildSlice: a part of the wrong size") := fun zero => by
      split
      · exact tame_bind (tame_newRow _ _) fun _ => tame_pure _
      · exact tame_stuck _
    have hq : Tame (if n * sz = 0 then do
      let zero ← pure #[]
      match Instr.fill (fun i => some (i * sz, sz)) (Array.map (fun x => zero[x % zero.size]!) (Array.range (n * sz))) ps.toList with
        | some cells => do
          let __do_lift ← newRow el cells
          pure (Value.slice (some __do_lift) n n)
        | _ => stuck "buildSlice: a part of the wrong size"
    else do
      let __do_lift ← zeroValue el
      let zero ← pure __do_lift.cells
      match Instr.fill (fun i => some (i * sz, sz)) (Array.map (fun x => zero[x % zero.size]!) (Array.range (n * sz))) ps.toList with
        | some cells => do
          let __do_lift ← newRow el cells
          pure (Value.slice (some __do_lift) n n)
        | _ => stuck "buildSlice: a part of the wrong size" : Sem Value) :=
      tame_ite (tame_bind (tame_pure _) fun z => hz z) (tame_bind (tame_zero _) fun _ => tame_bind (tame_pure _) fun z => hz z)
    dsimp only
    split
    · exact tame_bind (tame_unsup _) fun _ => hq
    · exact hq
  · exact tame_stuck _
def tameB : Op → Bool
  | .move _ | .assign _ | .load .. | .buildSlice .. | .box .. => true
  | _ => false
def TameIn (P : Program) (C : World → Prop) (o : Oper) : Prop := ∀ (ρ : Operand → Value) (w w' : World) (x : Next), C w → (execOp ρ o).run P w = .ok x w' → C w' ∧ ∃ v, x = .value v
theorem tame_value {P : Program} {e : Sem Value} {w w' : World} {x : Next} (h : Tame e) (hr : (e >>= fun v => (pure (.value v) : Sem Next)).run P w = .ok x w') : Ext w w' ∧ ∃ v, x = .value v := by
  rw [Sem.run_bind] at hr
  cases he : e.run P w with
  | ok v w1 =>
    rw [he] at hr
    simp only [Result.andThen_ok, Sem.run_pure, Result.ok.injEq] at hr
    obtain ⟨rfl, rfl⟩ := hr
    exact ⟨tame_run h he, v, rfl⟩
  | halt q w1 => rw [he] at hr; simp [Result.andThen] at hr
theorem tame_in (P : Program) (w0 : World) (o : Oper) (h : tameB o.op = true) : TameIn P (fun w => Ext w0 w) o := by
  obtain ⟨d, op, ty, pos, af, gd⟩ := o
  intro ρ w w' x hC hr
  cases op
  case move y =>
    have hr' : (pure (.value (ρ y)) : Sem Next).run P w = .ok x w' := hr
    simp only [Sem.run_pure, Result.ok.injEq] at hr'; obtain ⟨rfl, rfl⟩ := hr'; exact ⟨hC, _, rfl⟩
  case assign y =>
    have hr' : (pure (.value (ρ y)) : Sem Next).run P w = .ok x w' := hr
    simp only [Sem.run_pure, Result.ok.injEq] at hr'; obtain ⟨rfl, rfl⟩ := hr'; exact ⟨hC, _, rfl⟩
  case load t y => obtain ⟨h1, h2⟩ := tame_value (e := Instr.loadAt t (ρ y)) (tame_bind (tame_sure _) fun _ => tame_loadVar _ _) hr; exact ⟨hC.trans h1, h2⟩
  case buildSlice t n ps => obtain ⟨h1, h2⟩ := tame_value (tame_buildSlice _ _ _) hr; exact ⟨hC.trans h1, h2⟩
  case box t y => obtain ⟨h1, h2⟩ := tame_value (e := Instr.box t (ρ y)) (tame_bind (tame_newRow _ _) fun _ => tame_pure _) hr; exact ⟨hC.trans h1, h2⟩
  all_goals exact absurd h Bool.false_ne_true

section
variable {P : Program} {ops : Array Oper} {Q : Exit → Act → World → Prop} {C : World → Prop}
def YieldsC (P : Program) (ops : Array Oper) (C : World → Prop) (o : Oper) (v : Value) (a : Act) : Prop :=
  (Region.wanted o (yielded ops a.tmps) = true ∧ ∀ w, C w → (execOp a.eval o).run P w = .ok (.value v) w) ∨ (Region.wanted o (yielded ops a.tmps) = false ∧ v = undef)
theorem YieldsC.of_same {o : Oper} {v : Value} {a a' : Act} (hy : YieldsC P ops C o v a) (he : execOp a'.eval o = execOp a.eval o) (hw : Region.wanted o (yielded ops a'.tmps) = Region.wanted o (yielded ops a.tmps)) : YieldsC P ops C o v a' := by
  unfold YieldsC at *
  rw [he, hw]
  exact hy
theorem YieldsC.wpOp {i : Nat} {o : Oper} {v : Value} {a : Act} (hi : ops[i]? = some o) (hy : YieldsC P ops C o v a) {K : Act → World → Prop} {w : World} (hC : C w) (h : K (a.put o.dst v) w) : wpOp P ops Q i K a w := by
  unfold Go.wpOp
  simp only [hi]
  rcases hy with ⟨hw, hv⟩ | ⟨hw, rfl⟩
  · simp only [hw, if_true, Oper.wp, hv w hC, Oper.upon]; exact .inl h
  · simp only [hw, Bool.false_eq_true, if_false]; exact h
theorem wpOp_putC {j : Nat} {oi oj : Oper} {v : Value} (hj : ops[j]? = some oj) (hap : oi.apart ops oj = true) (hsi : ∀ cs b, oi.op ≠ .select cs b) (hsj : ∀ cs b, oj.op ≠ .select cs b)
    (hQ : ∀ c a w, ¬ Q (.panic c) a w) {K : Act → World → Prop} {a : Act} {w : World} (hC : C w) (ht : TameIn P C oj)
    (hy : YieldsC P ops C oi v a) (h : wpOp P ops Q j K (a.put oi.dst v) w) : wpOp P ops Q j (fun a' w' => C w' ∧ YieldsC P ops C oi v a' ∧ K (a'.put oi.dst v) w') a w := by
  obtain ⟨h1, h2, h3⟩ := Oper.apart_spec hap
  have keep : ∀ (a : Act), YieldsC P ops C oi v a → ∀ u, YieldsC P ops C oi v (a.put oj.dst u) := fun a hy u => hy.of_same (execOp_put oi hsi a oj.dst u h3) (wanted_put oi a oj.dst u h3)
  unfold wpOp at *
  simp only [hj] at *
  rw [wanted_put oj a oi.dst v h1] at h
  split
  · rename_i hw
    simp only [hw, if_true] at h
    rcases h with h | ⟨hasks, hlets⟩
    case inr => exact .inr ⟨by unfold Oper.asks at *; rw [execOp_put oj hsj a oi.dst v h1] at hasks; exact hasks, hlets⟩
    refine .inl ?_
    unfold Oper.wp at *
    rw [execOp_put oj hsj a oi.dst v h1] at h
    cases hr : (execOp a.eval oj).run P w with
    | ok x w' =>
      obtain ⟨hC', u, rfl⟩ := ht _ _ _ _ hC hr
      rw [hr] at h
      simp only [Oper.upon] at h ⊢
      exact ⟨hC', keep a hy u, by rw [← Act.put_comm a v u h2]; exact h⟩
    | halt x w' =>
      rw [hr] at h
      cases x <;> simp only [Oper.upon] at h ⊢
      case panic u => exact absurd h (hQ _ _ _)
  · rename_i hw
    simp only [hw] at h
    exact ⟨hC, keep a hy _, by rw [← Act.put_comm a v undef h2]; exact h⟩

def Closed (ops : Array Oper) (listed : Array Bool) : Prop := ∀ x o, listed.getD x false = true → ops[x]? = some o → ∀ e ∈ o.after, Region.binds .any e = true → listed.getD e.on false = true
/-- i stands ahead of j -/
def anc (ops : Array Oper) (i : Nat) : Nat → Nat → Bool
  | 0, _ => false
  | f + 1, j => match ops[j]? with
    | none => false
    | some o => o.after.any fun e => Region.binds .any e && (e.on == i || anc ops i f e.on)
theorem anc_listed {listed : Array Bool} (hc : Closed ops listed) {i : Nat} : ∀ (f x : Nat), listed.getD x false = true → anc ops i f x = true → listed.getD i false = true
  | 0, _, _, h => by cases h
  | f + 1, x, hx, h => by
    unfold anc at h
    cases ho : ops[x]? with
    | none => rw [ho] at h; cases h
    | some o =>
      rw [ho] at h
      obtain ⟨e, he, hb⟩ := Array.any_eq_true'.1 h
      simp only [Bool.and_eq_true, Bool.or_eq_true, beq_iff_eq] at hb
      have h1 := hc x o hx ho e he hb.1
      rcases hb.2 with h2 | h2
      · rw [← h2]; exact h1
      · exact anc_listed hc f e.on h1 h2
theorem anc_ready {listed : Array Bool} (hc : Closed ops listed) {i j f : Nat} (hi : listed.getD i true = false) (hj : j ∈ Region.ready .any ops listed) : anc ops i f j = false := by
  cases h : anc ops i f j with
  | false => rfl
  | true =>
    exfalso
    obtain ⟨-, o, ho, hall⟩ := mem_ready.1 hj
    have hfl : listed.getD i false = true → False := by
      intro h1
      rcases Nat.lt_or_ge i listed.size with h' | h'
      · simp [h'] at hi h1; rw [hi] at h1; cases h1
      · simp [Array.getElem?_eq_none h'] at h1
    cases f with
    | zero => cases h
    | succ f =>
      unfold anc at h
      rw [ho] at h
      obtain ⟨e, he, hb⟩ := Array.any_eq_true'.1 h
      simp only [Bool.and_eq_true, Bool.or_eq_true, beq_iff_eq] at hb
      have h1 := hall e he hb.1
      rcases hb.2 with h2 | h2
      · rw [h2] at h1; exact hfl h1
      · exact hfl (anc_listed hc f e.on h1 h2)
theorem Closed.set {listed : Array Bool} (hc : Closed ops listed) {j : Nat} (hj : j ∈ Region.ready .any ops listed) : Closed ops (listed.setIfInBounds j true) := by
  obtain ⟨h0, o, ho, hall⟩ := mem_ready.1 hj
  intro x o' hx ho' e he hb
  by_cases h : j = x
  · subst h
    rw [ho] at ho'
    obtain rfl := Option.some.inj ho'
    exact getD_set_true (hall e he hb)
  · rw [getD_set_ne false h] at hx
    exact getD_set_true (hc x o' hx ho' e he hb)
theorem wpAny_firstC {i f : Nat} {oi : Oper} {v : Value} (hi : ops[i]? = some oi) (hsel : ∀ (j : Nat) (o : Oper) cs b, ops[j]? = some o → o.op ≠ .select cs b) (hQ : ∀ c a w, ¬ Q (.panic c) a w) (hT : ∀ o : Oper, tameB o.op = true → TameIn P C o) :
    ∀ (fuel : Nat) (listed : Array Bool) (a : Act) (w : World), Closed ops listed → C w →
      (∀ j oj, ops[j]? = some oj → j ≠ i → listed.getD j true = false → anc ops i f j = false → oi.apart ops oj = true ∧ tameB oj.op = true) →
      i ∈ Region.ready .any ops listed → YieldsC P ops C oi v a →
      wpAny P .any ops Q fuel (listed.setIfInBounds i true) (a.put oi.dst v) w → wpAny P .any ops Q (fuel + 1) listed a w := by
  intro fuel
  induction fuel with
  | zero =>
    intro listed a w _ hC _ hr hy H
    refine ⟨fun h => (by rw [h] at hr; cases hr), fun j hj => ?_⟩
    by_cases hji : j = i
    · subst hji; exact hy.wpOp hi hC H
    · have := ready_mono hj hji
      rw [H.1] at this
      cases this
  | succ fuel ih =>
    intro listed a w hcl hC hfree hr hy H
    refine ⟨fun h => (by rw [h] at hr; cases hr), fun j hj => ?_⟩
    by_cases hji : j = i
    · subst hji; exact hy.wpOp hi hC H
    · have h1 := H.2 j (ready_mono hj hji)
      obtain ⟨hjun, oj, hoj, hall⟩ := mem_ready.1 hj
      have hnot := anc_ready (f := f) hcl (mem_ready.1 hr).1 hj
      obtain ⟨hap, htm⟩ := hfree j oj hoj hji hjun hnot
      have h2 := wpOp_putC hoj hap (fun cs b => hsel i oi cs b hi) (fun cs b => hsel j oj cs b hoj) hQ hC (hT oj htm) hy h1
      have hfree' : ∀ k ok, ops[k]? = some ok → k ≠ i → (listed.setIfInBounds j true).getD k true = false → anc ops i f k = false → oi.apart ops ok = true ∧ tameB ok.op = true := fun k ok hk hki hun hno => by
        refine hfree k ok hk hki ?_ hno
        by_cases hjk : j = k
        · subst hjk; exact hjun
        · rw [getD_set_ne true hjk] at hun; exact hun
      refine wpOp_mono (fun a' w' h3 => ih (listed.setIfInBounds j true) a' w' (hcl.set hj) h3.1 hfree' (ready_mono hr (Ne.symm hji)) h3.2.1 ?_) h2
      rw [Array.setIfInBounds_comm _ _ hji]
      exact h3.2.2
end

/-! the same, said of known slots -/
def onlyN (K : Cont) : Cont := fun e s w => e = .normal ∧ K .normal s w
def AnyE (P : Program) (n : Nat) (ops : Array Oper) (K : Cont) (fuel : Nat) (listed : Array Bool) (s : Env) (w : World) : Prop := Closed ops listed → ∀ a, Fits n s a → wpAny P .any ops (Fin n (onlyN K)) fuel listed a w
def okT (ops : Array Oper) (listed : Array Bool) (i : Nat) : Bool := Region.noSelect ops && Region.free .any ops listed i && (Region.ready .any ops listed).contains i
def okC (ops : Array Oper) (listed : Array Bool) (i : Nat) : Bool := Region.noSelect ops && (Region.ready .any ops listed).contains i && (match ops[i]? with
  | none => false
  | some oi => (List.range ops.size).all fun j => j == i || listed.getD j true || anc ops i ops.size j || (match ops[j]? with | some oj => oi.apart ops oj && tameB oj.op | none => true))
section
variable {P : Program} {n : Nat} {ops : Array Oper} {K : Cont} {s : Env} {w : World} {fuel : Nat} {listed : Array Bool} {d : Nat} {op : Op} {ty : TypeId} {pos : String} {af : Array Edge} {gd : Option (Nat × Bool)}
/-- an operation that yields v in every world whatever -/
theorem T_ev (i : Nat) {v : Value} (hi : ops[i]? = some ⟨some d, op, ty, pos, af, gd⟩) (hk : okT ops listed i = true) (h : Ev P s (fun _ => True) ⟨some d, op, ty, pos, af, gd⟩ v) (hg : guardE ops s ⟨some d, op, ty, pos, af, gd⟩ = some true) (hd : Nat.ble (d + 1) n = true)
    (k : AnyE P n ops K fuel (listed.setIfInBounds i true) ((d, v) :: s) w) : AnyE P n ops K (fuel + 1) listed s w := by
  intro hc a ha
  unfold okT at hk
  simp only [Bool.and_eq_true] at hk
  obtain ⟨⟨h1, h2⟩, h3⟩ := hk
  have hr : i ∈ Region.ready .any ops listed := by simpa using h3
  refine wpAny_take hi h1 h2 h3 (fun c a w ⟨_, _, he, _⟩ => (by cases he)) (.inl ⟨guard_wanted ha hg, fun w => h a.eval (fun x u hx => ha.eval hx) w trivial⟩) ?_
  exact k (hc.set hr) _ (ha.put v (Nat.le_of_ble_eq_true hd))
/-- an operation that only reads -/
theorem T_rd (i : Nat) {v : Value} (hi : ops[i]? = some ⟨some d, op, ty, pos, af, gd⟩) (hk : okC ops listed i = true) (h : Ev P s (fun w' => Ext w w') ⟨some d, op, ty, pos, af, gd⟩ v) (hg : guardE ops s ⟨some d, op, ty, pos, af, gd⟩ = some true) (hd : Nat.ble (d + 1) n = true)
    (k : AnyE P n ops K fuel (listed.setIfInBounds i true) ((d, v) :: s) w) : AnyE P n ops K (fuel + 1) listed s w := by
  intro hc a ha
  unfold okC at hk
  simp only [Bool.and_eq_true] at hk
  obtain ⟨⟨h1, h3⟩, h2⟩ := hk
  have hr : i ∈ Region.ready .any ops listed := by simpa using h3
  rw [hi] at h2
  refine wpAny_firstC (C := fun w' => Ext w w') (f := ops.size) hi (Region.noSelect_spec h1) (fun c a w ⟨_, _, he, _⟩ => (by cases he)) (fun o ho => tame_in P w o ho) fuel listed a w hc (Ext.refl w) ?_ hr (.inl ⟨guard_wanted ha hg, fun w hw => h a.eval (fun x u hx => ha.eval hx) w hw⟩) ?_
  · intro j oj hj hne hun hno
    have hlt : j < ops.size := (Array.getElem?_eq_some_iff.1 hj).1
    have := List.all_eq_true.1 h2 j (List.mem_range.2 hlt)
    rw [hj] at this
    simp only [Bool.or_eq_true, beq_iff_eq, hne, hun, hno, Bool.false_eq_true, false_or, or_false, Bool.and_eq_true] at this
    exact this
  · exact k (hc.set hr) _ (ha.put v (Nat.le_of_ble_eq_true hd))
/-- what is left stands in a row -/
theorem T_seq (m : Nat) {l : List Oper} (hB : Region.seqB .any l.toArray (l.drop m).length m listed = true) (h : RunE P n l.toArray (l.drop m) (onlyN K) s w) : AnyE P n l.toArray K (l.drop m).length listed s w := by
  intro hc a ha
  refine wpAny_of_seq (l.drop m) m listed a w (fun j => by simp) hB (h a ha)
theorem W_takes {id : Nat} {l : List Oper} (hm : P.follows .mixedOrders = true) (h : ∀ w1, Ext w w1 → AnyE P n l.toArray K l.length (Array.replicate l.length false) s w1) : Wp P n (.region id l.toArray true) K s w := by
  intro a ha
  have h1 := h w.drew (drew_ext w) (fun x o hx => by
    exfalso
    simp only [Array.getD_eq_getD_getElem?, Array.getElem?_replicate] at hx
    split at hx <;> cases hx) a ha
  refine wp_mono (wp_region_any hm (by simpa using h1)) ?_
  rintro e a' w' ⟨s', h2, rfl, h3⟩
  exact ⟨s', h2, h3⟩
theorem R_only (h : K .normal s w) : RunE P n ops [] (onlyN K) s w := R_nil ⟨rfl, h⟩
end
end Go.Proofs.Ytmbaennilhdieaa
