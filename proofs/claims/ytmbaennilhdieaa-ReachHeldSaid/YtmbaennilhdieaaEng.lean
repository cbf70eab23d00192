/- A walk by small steps: a frame is a list of known slots, newest first. Over any program. -/
import Derived.Test.YtmbaennilhdieaaMem
import Derived.Orders
import Derived.KernelRfl
import Derived.Deep.Quiet
import Derived.Deep.LoopGhost
namespace Go.Proofs.Ytmbaennilhdieaa
open Go.RowKit

abbrev Env := List (Nat × Value)
def look : Env → Nat → Option Value
  | [], _ => none
  | (k, v) :: r, i => bif Nat.beq k i then some v else look r i
def evE (s : Env) : Operand → Option Value
  | .tmp t => look s t
  | .const v => some v
  | .global g => some (.pointer (some ⟨g, 0, none⟩))
  | .func f => some (.func (.func f) #[] #[])
structure Fits (n : Nat) (s : Env) (a : Act) : Prop where
  size : a.tmps.size = n
  defers : a.defers = []
  at_ : ∀ k v, look s k = some v → a.tmps.getD k undef = v
/-- env s knows all that t knows -/
def Sub (s t : Env) : Prop := ∀ k v, look t k = some v → look s k = some v
theorem sub_refl {s : Env} : Sub s s := fun _ _ h => h
theorem sub_nil {s : Env} : Sub s [] := fun _ _ h => (by cases h)
theorem look_cons (s : Env) (d k : Nat) (v : Value) : look ((d, v) :: s) k = if d = k then some v else look s k := by
  show (bif Nat.beq d k then some v else look s k) = _
  by_cases h : d = k
  · subst h; simp
  · rw [if_neg h]
    have : Nat.beq d k = false := by cases hb : Nat.beq d k with
      | false => rfl
      | true => exact absurd (Nat.eq_of_beq_eq_true hb) h
    rw [this]; rfl
theorem sub_cons {s t : Env} {k : Nat} {v : Value} (h : look s k = some v) (ht : Sub s t) : Sub s ((k, v) :: t) := fun j u hj => by
  rw [look_cons] at hj
  by_cases e : k = j
  · subst e; rw [if_pos rfl] at hj; rw [h, hj]
  · rw [if_neg e] at hj; exact ht j u hj
theorem sub_skip {s t : Env} {k : Nat} {v : Value} (ht : Sub s t) (h : look t k = none) : Sub ((k, v) :: s) t := fun j u hj => by
  rw [look_cons]
  by_cases e : k = j
  · subst e; rw [h] at hj; cases hj
  · rw [if_neg e]; exact ht j u hj
theorem look_sub {s t : Env} {k : Nat} {v : Value} (hs : Sub s t) (h : look t k = some v) : look s k = some v := hs k v h
theorem Fits.sub {n : Nat} {s t : Env} {a : Act} (h : Fits n s a) (hs : Sub s t) : Fits n t a := ⟨h.size, h.defers, fun k v hk => h.at_ k v (look_sub hs hk)⟩
theorem Fits.eval {n : Nat} {s : Env} {a : Act} (h : Fits n s a) {x : Operand} {v : Value} (hx : evE s x = some v) : a.eval x = v := by
  cases x with
  | tmp t => exact h.at_ t v hx
  | const u => exact Option.some.inj hx
  | global g => exact Option.some.inj hx
  | func f => exact Option.some.inj hx
theorem Fits.put {n : Nat} {s : Env} {a : Act} (h : Fits n s a) {d : Nat} (v : Value) (hd : d < n) : Fits n ((d, v) :: s) (a.put (some d) v) := by
  refine ⟨by simp [Act.put, h.size], h.defers, fun k u hk => ?_⟩
  rw [look_cons] at hk
  have hd' : d < a.tmps.size := by rw [h.size]; exact hd
  by_cases e : d = k
  · subst e
    rw [if_pos rfl] at hk
    simp [Act.put, hd', Option.some.inj hk]
  · rw [if_neg e] at hk
    have := h.at_ k u hk
    simpa [Act.put, Array.getElem?_setIfInBounds_ne e] using this
theorem Fits.put0 {n : Nat} {s : Env} {a : Act} (h : Fits n s a) (v : Value) : Fits n s (a.put none v) := h
/-- a slot that is no longer known is forgotten -/
def drop1 (d : Nat) : Env → Env
  | [] => []
  | (k, v) :: r => bif Nat.beq k d then drop1 d r else (k, v) :: drop1 d r

abbrev Cont := Exit → Env → World → Prop
def Fin (n : Nat) (K : Cont) : Exit → Act → World → Prop := fun e a w => ∃ s, Fits n s a ∧ K e s w
def Wp (P : Program) (n : Nat) (c : Code) (K : Cont) (s : Env) (w : World) : Prop := ∀ a, Fits n s a → c.wp P (Fin n K) a w
def nxt (N : Env → World → Prop) (K : Cont) : Cont
  | .normal, s, w => N s w
  | e, s, w => K e s w
def blk (id : Nat) (K : Cont) : Cont
  | .exit j, s, w => bif Nat.beq j id then K .normal s w else K (.exit j) s w
  | e, s, w => K e s w

section
variable {P : Program} {n : Nat} {K : Cont} {s : Env} {w : World}
theorem W_sub {c : Code} {t : Env} (hs : Sub s t) (h : Wp P n c K t w) : Wp P n c K s w := fun a ha => h a (ha.sub hs)
theorem W_seq {x y : Code} (h : Wp P n x (nxt (fun s w => Wp P n y K s w) K) s w) : Wp P n (.seq x y) K s w := by
  intro a ha
  refine wp_seq (wp_mono (h a ha) ?_)
  rintro e a' w' ⟨s', hf, hk⟩
  cases e with
  | normal => exact hk a' hf
  | _ => exact ⟨s', hf, hk⟩
theorem W_skip (h : K .normal s w) : Wp P n .skip K s w := fun _ ha => wp_skip ⟨s, ha, h⟩
theorem W_ret (h : K .ret s w) : Wp P n .ret K s w := fun _ ha => wp_ret ⟨s, ha, h⟩
theorem W_exit {id : Nat} (h : K (.exit id) s w) : Wp P n (.exit id) K s w := fun _ ha => wp_exit ⟨s, ha, h⟩
theorem W_block {id : Nat} {c : Code} (h : Wp P n c (blk id K) s w) : Wp P n (.block id c) K s w := by
  intro a ha
  refine wp_block (wp_mono (h a ha) ?_)
  rintro e a' w' ⟨s', hf, hk⟩
  cases e with
  | exit j =>
    show if j = id then Fin n K .normal a' w' else Fin n K (.exit j) a' w'
    by_cases e : j = id
    · subst e
      rw [if_pos rfl]
      refine ⟨s', hf, ?_⟩
      simpa [blk] using hk
    · rw [if_neg e]
      refine ⟨s', hf, ?_⟩
      have : Nat.beq j id = false := by cases hb : Nat.beq j id with
        | false => rfl
        | true => exact absurd (Nat.eq_of_beq_eq_true hb) e
      simpa [blk, this] using hk
  | _ => exact ⟨s', hf, hk⟩
theorem W_cond {c : Operand} {x y : Code} {b : Bool} (hc : evE s c = some (.bool b)) (ht : b = true → Wp P n x K s w) (hf : b = false → Wp P n y K s w) : Wp P n (.cond c x y) K s w :=
  fun a ha => wp_cond_split (ha.eval hc) (fun h => ht h a ha) (fun h => hf h a ha)
theorem W_cond_t {c : Operand} {x y : Code} (hc : evE s c = some (.bool true)) (ht : Wp P n x K s w) : Wp P n (.cond c x y) K s w :=
  fun a ha => wp_cond_true (ha.eval hc) (ht a ha)
theorem W_cond_f {c : Operand} {x y : Code} (hc : evE s c = some (.bool false)) (hf : Wp P n y K s w) : Wp P n (.cond c x y) K s w :=
  fun a ha => wp_cond_false (ha.eval hc) (hf a ha)
theorem nxt_n {N : Env → World → Prop} (h : N s w) : nxt N K .normal s w := h
theorem nxt_e {N : Env → World → Prop} {i : Nat} (h : K (.exit i) s w) : nxt N K (.exit i) s w := h
theorem nxt_r {N : Env → World → Prop} (h : K .ret s w) : nxt N K .ret s w := h
theorem blk_n {i : Nat} (h : K .normal s w) : blk i K .normal s w := h
theorem blk_r {i : Nat} (h : K .ret s w) : blk i K .ret s w := h
theorem blk_x {i : Nat} (h : K .normal s w) : blk i K (.exit i) s w := by simpa [blk] using h
theorem blk_o {i j : Nat} (hij : Nat.beq j i = false) (h : K (.exit j) s w) : blk i K (.exit j) s w := by simpa [blk, hij] using h
/-- a loop: every round starts at a point i of the family of frames E, in a world of J i; the number m goes down -/
theorem W_loop {c : Code} {ι : Type} (E : ι → Env) (J : ι → World → Prop) (m : ι → Nat) (i0 : ι) (h0 : Sub s (E i0)) (j0 : J i0 w)
    (round : ∀ i w, J i w → Wp P n c (nxt (fun s' w' => ∃ i', Sub s' (E i') ∧ J i' w' ∧ m i' < m i) K) (E i) w) : Wp P n (.loop c) K s w := by
  intro a ha
  refine wp_loop_ghost (fun k a w => ∃ i, m i = k ∧ Fits n (E i) a ∧ J i w) (m i0) ⟨i0, rfl, ha.sub h0, j0⟩ ?_
  rintro k a w ⟨i, rfl, hf, hj⟩
  refine wp_mono (round i w hj a hf) ?_
  rintro e a' w' ⟨s', hf', hk⟩
  cases e with
  | normal =>
    obtain ⟨i', h1, h2, h3⟩ := hk
    exact ⟨m i', h3, i', rfl, hf'.sub h1, h2⟩
  | _ => exact ⟨s', hf', hk⟩
/-- one intermediate claim for several ways -/
theorem W_cut {c : Code} (M : Env → World → Prop) (h : Wp P n c (nxt M K) s w) (h2 : ∀ s' w', M s' w' → K .normal s' w') : Wp P n c K s w := by
  intro a ha
  refine wp_mono (h a ha) ?_
  rintro e a' w' ⟨s', hf', hk⟩
  cases e with
  | normal => exact ⟨s', hf', h2 _ _ hk⟩
  | _ => exact ⟨s', hf', hk⟩
end

/-! regions -/
def RunE (P : Program) (n : Nat) (ops : Array Oper) (l : List Oper) (K : Cont) (s : Env) (w : World) : Prop := ∀ a, Fits n s a → wpList P ops (Fin n K) l a w
/-- an operation yields v in every world of the class C, and leaves the world alone -/
def Ev (P : Program) (s : Env) (C : World → Prop) (o : Oper) (v : Value) : Prop := ∀ ρ : Operand → Value, (∀ x u, evE s x = some u → ρ x = u) → ∀ w, C w → (execOp ρ o).run P w = .ok (.value v) w
def guardE (ops : Array Oper) (s : Env) (o : Oper) : Option Bool :=
  match o.guard with
  | none => some true
  | some (j, want) =>
    match (ops[j]?).bind (·.dst) with
    | none => none
    | some d =>
      match look s d with
      | some (.bool b) => some (b == want)
      | some _ => some false
      | none => none
theorem guard_wanted {n : Nat} {ops : Array Oper} {s : Env} {a : Act} {o : Oper} {b : Bool} (ha : Fits n s a) (h : guardE ops s o = some b) : Region.wanted o (yielded ops a.tmps) = b := by
  unfold guardE at h
  unfold Region.wanted
  cases hg : o.guard with
  | none => rw [hg] at h; simpa using h
  | some p =>
    obtain ⟨j, want⟩ := p
    rw [hg] at h
    simp only at h ⊢
    unfold yielded
    cases hd : (ops[j]?).bind (·.dst) with
    | none => rw [hd] at h; cases h
    | some d =>
      rw [hd] at h
      simp only at h
      cases hl : look s d with
      | none => rw [hl] at h; cases h
      | some v =>
        rw [hl] at h
        have hv := ha.at_ d v hl
        cases v with
        | bool c =>
          simp only [Option.some.injEq] at h
          have : a.tmps[d]? = some (.bool c) := by
            rcases Nat.lt_or_ge d a.tmps.size with hlt | hge
            · simp [hlt] at hv; simp [hlt, hv]
            · simp [hge, undef] at hv
          simp only [Option.bind_some, this]
          rw [← h]
          cases c <;> cases want <;> rfl
        | _ =>
          have hs : some false = some b := h
          have hb := Option.some.inj hs
          subst hb
          simp only [Option.bind_some]
          rcases Nat.lt_or_ge d a.tmps.size with hlt | hge
          · simp [hlt] at hv; simp [hlt, hv]
          · simp [hge]

section
variable {P : Program} {n : Nat} {ops : Array Oper} {K : Cont} {s : Env} {w : World} {o : Oper} {rest : List Oper} {d : Nat} {op : Op} {ty : TypeId} {pos : String} {af : Array Edge} {gd : Option (Nat × Bool)}
theorem W_region {id : Nat} {l : List Oper} (h : RunE P n l.toArray l K s w) : Wp P n (.region id l.toArray false) K s w := fun a ha => wp_region_lit (h a ha)
theorem R_nil (h : K .normal s w) : RunE P n ops [] K s w := fun _ ha => wpList_nil ⟨s, ha, h⟩
theorem R_sub {t : Env} (hs : Sub s t) (h : RunE P n ops rest K t w) : RunE P n ops rest K s w := fun a ha => h a (ha.sub hs)
theorem R_ev {v : Value} (h : Ev P s (· = w) ⟨some d, op, ty, pos, af, gd⟩ v) (hg : guardE ops s ⟨some d, op, ty, pos, af, gd⟩ = some true) (hd : Nat.ble (d + 1) n = true) (k : RunE P n ops rest K ((d, v) :: s) w) : RunE P n ops (⟨some d, op, ty, pos, af, gd⟩ :: rest) K s w := by
  intro a ha
  refine wpList_step fun K' hK => ?_
  rw [if_pos (guard_wanted ha hg)]
  unfold Oper.wp
  rw [h a.eval (fun x u hx => ha.eval hx) w rfl]
  exact hK _ _ (k _ (ha.put v (Nat.le_of_ble_eq_true hd)))
theorem R_skip (hg : guardE ops s ⟨some d, op, ty, pos, af, gd⟩ = some false) (hd : Nat.ble (d + 1) n = true) (k : RunE P n ops rest K ((d, undef) :: s) w) : RunE P n ops (⟨some d, op, ty, pos, af, gd⟩ :: rest) K s w := by
  intro a ha
  refine wpList_step fun K' hK => ?_
  rw [if_neg (by rw [guard_wanted ha hg]; exact Bool.false_ne_true)]
  exact hK _ _ (k _ (ha.put undef (Nat.le_of_ble_eq_true hd)))
/-- an operation that changes the world and yields v -/
theorem R_do {v : Value} {w' : World} (h : ∀ ρ : Operand → Value, (∀ x u, evE s x = some u → ρ x = u) → (execOp ρ ⟨some d, op, ty, pos, af, gd⟩).run P w = .ok (.value v) w') (hg : guardE ops s ⟨some d, op, ty, pos, af, gd⟩ = some true) (hd : Nat.ble (d + 1) n = true) (k : RunE P n ops rest K ((d, v) :: s) w') : RunE P n ops (⟨some d, op, ty, pos, af, gd⟩ :: rest) K s w := by
  intro a ha
  refine wpList_step fun K' hK => ?_
  rw [if_pos (guard_wanted ha hg)]
  unfold Oper.wp
  rw [h a.eval (fun x u hx => ha.eval hx)]
  exact hK _ _ (k _ (ha.put v (Nat.le_of_ble_eq_true hd)))
/-- an operation that changes the world and yields nothing -/
theorem R_unit {w' : World} (h : ∀ ρ : Operand → Value, (∀ x u, evE s x = some u → ρ x = u) → (execOp ρ ⟨none, op, ty, pos, af, gd⟩).run P w = .ok .skip w') (hg : guardE ops s ⟨none, op, ty, pos, af, gd⟩ = some true) (k : RunE P n ops rest K s w') : RunE P n ops (⟨none, op, ty, pos, af, gd⟩ :: rest) K s w := by
  intro a ha
  refine wpList_step fun K' hK => ?_
  rw [if_pos (guard_wanted ha hg)]
  unfold Oper.wp
  rw [h a.eval (fun x u hx => ha.eval hx)]
  exact hK _ _ (k _ (ha.put0 undef))
/-- an operation taken by one of the kit's laws over wpList -/
theorem R_law (h : ∀ a, Fits n s a → wpList P ops (Fin n K) (o :: rest) a w) : RunE P n ops (o :: rest) K s w := h

def evs (s : Env) : List Operand → Option (List Value)
  | [] => some []
  | x :: r => match evE s x, evs s r with
    | some v, some l => some (v :: l)
    | _, _ => none
theorem evs_map {s : Env} {ρ : Operand → Value} (h : ∀ x u, evE s x = some u → ρ x = u) : ∀ {l : List Operand} {vs : List Value}, evs s l = some vs → l.map ρ = vs
  | [], vs, e => by simp [evs] at e; simp [e]
  | x :: r, vs, e => by
    unfold evs at e
    cases hx : evE s x with
    | none => rw [hx] at e; cases e
    | some v =>
      cases hr : evs s r with
      | none => rw [hx, hr] at e; cases e
      | some l =>
        rw [hx, hr] at e
        simp only [Option.some.injEq] at e
        rw [List.map_cons, h x v hx, evs_map h hr, e]
/-- function f has a body in Go -/
def Callable (P : Program) (f : FuncId) : Prop := ∃ fn : Func, P.funcs[f]? = some fn ∧ fn.body.isNone = false ∧ (fn.name == "runtime.NumGoroutine") = false
theorem run_call_fn {ρ : Operand → Value} {d : Option Nat} {f : FuncId} {xs : List Operand} {ats : Array TypeId} {vs : List Value} (hf : Callable P f) (hv : xs.map ρ = vs) (hρ : ρ (.func f) = .func (.func f) #[] #[]) :
    (execOp ρ ⟨d, .call ⟨.value (.func f), xs.toArray, ats⟩, ty, pos, af, gd⟩).run P w = .ok (.enter f vs.toArray) w := by
  unfold execOp
  simp only [resolve, hρ, Deferred.ofValue, List.map_toArray, hv]
  obtain ⟨fn, hf, hb, hn⟩ := hf
  have hn' : ¬ fn.name = "runtime.NumGoroutine" := by simpa using hn
  have hb' : ¬ fn.body = none := by intro h; rw [h] at hb; cases hb
  simp [invoke, callFunc, hf, hb', hn', Sem.run_bind]
/-- a call of a Go function -/
theorem R_call {f : FuncId} {xs : List Operand} {ats : Array TypeId} {vs : List Value} (hf : Callable P f) (hv : evs s xs = some vs)
    (hg : guardE ops s ⟨some d, .call ⟨.value (.func f), xs.toArray, ats⟩, ty, pos, af, gd⟩ = some true) (hd : Nat.ble (d + 1) n = true)
    (k : Calls P f vs.toArray w fun e w' => ∃ v, e = .returned v ∧ RunE P n ops rest K ((d, v) :: s) w') : RunE P n ops (⟨some d, .call ⟨.value (.func f), xs.toArray, ats⟩, ty, pos, af, gd⟩ :: rest) K s w := by
  intro a ha
  refine wpList_step fun K' hK => ?_
  rw [if_pos (guard_wanted ha hg)]
  unfold Oper.wp
  rw [run_call_fn hf (evs_map (fun x u hx => ha.eval hx) hv) rfl]
  refine k.mono ?_
  rintro e w' ⟨v, rfl, hk⟩
  exact hK _ _ (hk _ (ha.put v (Nat.le_of_ble_eq_true hd)))
theorem R_call0 {f : FuncId} {xs : List Operand} {ats : Array TypeId} {vs : List Value} (hf : Callable P f) (hv : evs s xs = some vs)
    (hg : guardE ops s ⟨none, .call ⟨.value (.func f), xs.toArray, ats⟩, ty, pos, af, gd⟩ = some true)
    (k : Calls P f vs.toArray w fun e w' => ∃ v, e = .returned v ∧ RunE P n ops rest K s w') : RunE P n ops (⟨none, .call ⟨.value (.func f), xs.toArray, ats⟩, ty, pos, af, gd⟩ :: rest) K s w := by
  intro a ha
  refine wpList_step fun K' hK => ?_
  rw [if_pos (guard_wanted ha hg)]
  unfold Oper.wp
  rw [run_call_fn hf (evs_map (fun x u hx => ha.eval hx) hv) rfl]
  refine k.mono ?_
  rintro e w' ⟨v, rfl, hk⟩
  exact hK _ _ (hk _ (ha.put0 v))
end

/-! what the operations yield -/
section
variable {P : Program} {s : Env} {C : World → Prop} {d : Option Nat} {ty : TypeId} {pos : String} {af : Array Edge} {gd : Option (Nat × Bool)}
theorem ev_move {x : Operand} {v : Value} (h : evE s x = some v) : Ev P s C ⟨d, .move x, ty, pos, af, gd⟩ v := fun ρ hρ w _ => by
  show (Sem.pure (Next.value (ρ x))).run P w = _
  rw [hρ x v h]; rfl
theorem ev_assign {x : Operand} {v : Value} (h : evE s x = some v) : Ev P s C ⟨d, .assign x, ty, pos, af, gd⟩ v := fun ρ hρ w _ => by
  show (Sem.pure (Next.value (ρ x))).run P w = _
  rw [hρ x v h]; rfl
theorem ev_pick {c x y : Operand} {b : Bool} {u v : Value} (hc : evE s c = some (.bool b)) (hx : evE s x = some u) (hy : evE s y = some v) : Ev P s C ⟨d, .pick c x y, ty, pos, af, gd⟩ (bif b then u else v) := fun ρ hρ w _ => by
  unfold execOp
  simp only [hρ c _ hc, hρ x _ hx, hρ y _ hy]
  cases b <;> rfl
theorem ev_pick_t {c x y : Operand} {u : Value} (hc : evE s c = some (.bool true)) (hx : evE s x = some u) : Ev P s C ⟨d, .pick c x y, ty, pos, af, gd⟩ u := fun ρ hρ w _ => by
  unfold execOp
  simp only [hρ c _ hc, hρ x _ hx]
  rfl
theorem ev_pick_f {c x y : Operand} {u : Value} (hc : evE s c = some (.bool false)) (hy : evE s y = some u) : Ev P s C ⟨d, .pick c x y, ty, pos, af, gd⟩ u := fun ρ hρ w _ => by
  unfold execOp
  simp only [hρ c _ hc, hρ y _ hy]
  rfl
theorem ev_not {t : TypeId} {x : Operand} {b : Bool} (h : evE s x = some (.bool b)) : Ev P s C ⟨d, .unOp .not t x, ty, pos, af, gd⟩ (.bool (!b)) := fun ρ hρ w _ => by
  unfold execOp
  simp only [hρ x _ h]
  rfl
theorem ev_extract {x : Operand} {i : Nat} {vs : Array Value} {v : Value} (h : evE s x = some (.tuple vs)) (hi : vs[i]? = some v) : Ev P s C ⟨d, .extract x i, ty, pos, af, gd⟩ v := fun ρ hρ w _ => by
  unfold execOp
  simp only [hρ x _ h, Instr.extract, hi]
  rfl
theorem ev_nilCheck {x : Operand} {a : Addr} (h : evE s x = some (.pointer (some a))) : Ev P s C ⟨d, .nilCheck x, ty, pos, af, gd⟩ (.pointer (some a)) := fun ρ hρ w _ => by
  unfold execOp
  simp only [hρ x _ h]
  rfl
theorem ev_bin {b : BinOp} {t u : TypeId} {x y : Operand} {p q v : Value} (hx : evE s x = some p) (hy : evE s y = some q) (hr : ∀ w, (do eqGuard b t x y p q; binOp b t p q : Sem Value).run P w = .ok v w) : Ev P s C ⟨d, .binOp b t x y u, ty, pos, af, gd⟩ v := fun ρ hρ w _ => by
  unfold execOp
  simp only [hρ x _ hx, hρ y _ hy]
  have := hr w
  rw [Sem.run_bind, this]
  rfl
theorem wrap64_in {z : Int} (h1 : -9223372036854775808 ≤ z) (h2 : z ≤ 9223372036854775807) : IntKind.i64.wrap z = z := IntWalk.i64_in z ⟨by omega, by omega⟩
theorem ev_add {t u : TypeId} {x y : Operand} {a b : Int} (hx : evE s x = some (.int .i64 a)) (hy : evE s y = some (.int .i64 b)) (h1 : -9223372036854775808 ≤ a + b) (h2 : a + b ≤ 9223372036854775807) : Ev P s C ⟨d, .binOp .add t x y u, ty, pos, af, gd⟩ (.int .i64 (a + b)) :=
  ev_bin hx hy fun w => (show Result.ok (Value.int .i64 (IntKind.i64.wrap (a + b))) w = _ by rw [wrap64_in h1 h2])
theorem ev_sub {t u : TypeId} {x y : Operand} {a b : Int} (hx : evE s x = some (.int .i64 a)) (hy : evE s y = some (.int .i64 b)) (h1 : -9223372036854775808 ≤ a - b) (h2 : a - b ≤ 9223372036854775807) : Ev P s C ⟨d, .binOp .sub t x y u, ty, pos, af, gd⟩ (.int .i64 (a - b)) :=
  ev_bin hx hy fun w => (show Result.ok (Value.int .i64 (IntKind.i64.wrap (a - b))) w = _ by rw [wrap64_in h1 h2])
theorem ev_mul {t u : TypeId} {x y : Operand} {a b : Int} (hx : evE s x = some (.int .i64 a)) (hy : evE s y = some (.int .i64 b)) (h1 : -9223372036854775808 ≤ a * b) (h2 : a * b ≤ 9223372036854775807) : Ev P s C ⟨d, .binOp .mul t x y u, ty, pos, af, gd⟩ (.int .i64 (a * b)) :=
  ev_bin hx hy fun w => (show Result.ok (Value.int .i64 (IntKind.i64.wrap (a * b))) w = _ by rw [wrap64_in h1 h2])
theorem ev_rem {t u : TypeId} {x y : Operand} {a b : Int} (hx : evE s x = some (.int .i64 a)) (hy : evE s y = some (.int .i64 b)) (h : b ≠ 0) : Ev P s C ⟨d, .binOp .rem t x y u, ty, pos, af, gd⟩ (.int .i64 (a.tmod b)) :=
  ev_bin hx hy fun w => (by show (Op.intDiv .rem .i64 a b).run P w = _; unfold Op.intDiv; rw [if_neg h]; rfl)
theorem ev_quo {t u : TypeId} {x y : Operand} {a b : Int} (hx : evE s x = some (.int .i64 a)) (hy : evE s y = some (.int .i64 b)) (h : b ≠ 0) (h1 : -9223372036854775808 ≤ a.tdiv b) (h2 : a.tdiv b ≤ 9223372036854775807) : Ev P s C ⟨d, .binOp .quo t x y u, ty, pos, af, gd⟩ (.int .i64 (a.tdiv b)) :=
  ev_bin hx hy fun w => (by show (Op.intDiv .quo .i64 a b).run P w = _; unfold Op.intDiv; rw [if_neg h]; show Result.ok (Value.int .i64 (IntKind.i64.wrap (a.tdiv b))) w = _; rw [wrap64_in h1 h2])
theorem ev_lt {t u : TypeId} {x y : Operand} {k : IntKind} {a b : Int} (hx : evE s x = some (.int k a)) (hy : evE s y = some (.int k b)) : Ev P s C ⟨d, .binOp .lss t x y u, ty, pos, af, gd⟩ (.bool (decide (a < b))) :=
  ev_bin hx hy fun w => by cases k <;> rfl
theorem ev_le {t u : TypeId} {x y : Operand} {k : IntKind} {a b : Int} (hx : evE s x = some (.int k a)) (hy : evE s y = some (.int k b)) : Ev P s C ⟨d, .binOp .leq t x y u, ty, pos, af, gd⟩ (.bool (decide (a ≤ b))) :=
  ev_bin hx hy fun w => by cases k <;> rfl
theorem ev_gt {t u : TypeId} {x y : Operand} {k : IntKind} {a b : Int} (hx : evE s x = some (.int k a)) (hy : evE s y = some (.int k b)) : Ev P s C ⟨d, .binOp .gtr t x y u, ty, pos, af, gd⟩ (.bool (decide (b < a))) :=
  ev_bin hx hy fun w => by cases k <;> rfl
theorem ev_ge {t u : TypeId} {x y : Operand} {k : IntKind} {a b : Int} (hx : evE s x = some (.int k a)) (hy : evE s y = some (.int k b)) : Ev P s C ⟨d, .binOp .geq t x y u, ty, pos, af, gd⟩ (.bool (decide (b ≤ a))) :=
  ev_bin hx hy fun w => by cases k <;> rfl
theorem ev_eq {t u : TypeId} {x y : Operand} {k : IntKind} {a b : Int} (hx : evE s x = some (.int k a)) (hy : evE s y = some (.int k b)) : Ev P s C ⟨d, .binOp .eql t x y u, ty, pos, af, gd⟩ (.bool (decide (a = b))) :=
  ev_bin hx hy fun w => by cases k <;> rfl
theorem ev_ne {t u : TypeId} {x y : Operand} {k : IntKind} {a b : Int} (hx : evE s x = some (.int k a)) (hy : evE s y = some (.int k b)) : Ev P s C ⟨d, .binOp .neq t x y u, ty, pos, af, gd⟩ (.bool (!decide (a = b))) :=
  ev_bin hx hy fun w => by cases k <;> rfl
/-- any operation, run in the frame's own words -/
def evT (s : Env) (x : Operand) : Value := (evE s x).getD undef
theorem ev_run {o : Oper} {v : Value} {vs : List Value} (hs : ∀ cs b, o.op ≠ .select cs b) (hk : evs s o.op.operands.toList = some vs) (hr : ∀ w, C w → (execOp (evT s) o).run P w = .ok (.value v) w) : Ev P s C o v := fun ρ hρ w hw => by
  rw [execOp_congr (ρ' := evT s) o hs ?_]
  · exact hr w hw
  · intro x hx
    have key : ∀ (l : List Operand) (vs : List Value), evs s l = some vs → ∀ x ∈ l, ∃ v, evE s x = some v := by
      intro l
      induction l with
      | nil => intro _ _ x hx; cases hx
      | cons y r ih =>
        intro vs e x hx
        unfold evs at e
        cases hy : evE s y with
        | none => rw [hy] at e; cases e
        | some u =>
          cases hr : evs s r with
          | none => rw [hy, hr] at e; cases e
          | some l =>
            rcases List.mem_cons.1 hx with rfl | hm
            · exact ⟨u, hy⟩
            · exact ih l hr x hm
    obtain ⟨u, hu⟩ := key _ _ hk x (by simpa using hx)
    rw [hρ x u hu]
    unfold evT
    rw [hu]
    rfl
end

/-! a call's beginning and end -/
def envOf : List Value → Nat → Env
  | [], _ => []
  | v :: r, i => (i, v) :: envOf r (i + 1)
theorem look_envOf : ∀ (l : List Value) (i k : Nat) (v : Value), look (envOf l i) k = some v → i ≤ k ∧ l[k - i]? = some v
  | [], _, _, _, h => by cases h
  | u :: r, i, k, v, h => by
    unfold envOf at h
    rw [look_cons] at h
    by_cases e : i = k
    · subst e; rw [if_pos rfl] at h; simpa using h
    · rw [if_neg e] at h
      obtain ⟨h1, h2⟩ := look_envOf r (i + 1) k v h
      refine ⟨by omega, ?_⟩
      rw [show k - i = (k - (i + 1)) + 1 by omega, List.getElem?_cons_succ]
      exact h2
def Ends (P : Program) (fn : Func) (R : Ending → World → Prop) : Cont
  | .normal, s, w | .ret, s, w => ∀ a, Fits fn.ntmps s a → ∃ v, (results fn a.tmps).run P w = .ok v w ∧ R (.returned v) w
  | _, _, _ => False
section
variable {P : Program} {fn : Func} {R : Ending → World → Prop} {s : Env} {w : World}
theorem calls_E {f : FuncId} {c : Code} {args : List Value} (hf : P.funcs[f]? = some fn) (hb : fn.body = some c) (hn : Nat.ble args.length fn.ntmps = true) (h : Wp P fn.ntmps c (Ends P fn R) (envOf args 0) w) : Calls P f args.toArray w R := by
  refine calls_of_wp hf hb (wp_mono (h _ ⟨?_, rfl, ?_⟩) ?_)
  · have := Nat.le_of_ble_eq_true hn
    simp; omega
  · intro k v hk
    obtain ⟨-, h2⟩ := look_envOf args 0 k v hk
    have hlt : k < args.length := by simpa using (List.getElem?_eq_some_iff.1 h2).1
    rw [Nat.sub_zero] at h2
    have h3 := (List.getElem?_eq_some_iff.1 h2).2
    simp [Array.getElem?_append, hlt, h3]
  · rintro e a' w' ⟨s', hf', hk⟩
    cases e with
    | normal => obtain ⟨v, h1, h2⟩ := hk a' hf'; exact ⟨hf'.defers, v, h1, h2⟩
    | ret => obtain ⟨v, h1, h2⟩ := hk a' hf'; exact ⟨hf'.defers, v, h1, h2⟩
    | _ => exact hk.elim
theorem end1 {t : Nat} {v : Value} (hr : fn.results = #[.tmp t]) (hl : look s t = some v) (h : R (.returned v) w) : Ends P fn R .ret s w := fun a ha => by
  refine ⟨v, ?_, h⟩
  unfold results
  rw [hr]
  simpa using ha.at_ t v hl
theorem end2 {t u : Nat} {v x : Value} (hr : fn.results = #[.tmp t, .tmp u]) (hl : look s t = some v) (hm : look s u = some x) (h : R (.returned (.tuple #[v, x])) w) : Ends P fn R .ret s w := fun a ha => by
  refine ⟨_, ?_, h⟩
  unfold results
  rw [hr]
  simpa using And.intro (ha.at_ t v hl) (ha.at_ u x hm)
theorem end3 {t u z : Nat} {v x y : Value} (hr : fn.results = #[.tmp t, .tmp u, .tmp z]) (hl : look s t = some v) (hm : look s u = some x) (hz : look s z = some y) (h : R (.returned (.tuple #[v, x, y])) w) : Ends P fn R .ret s w := fun a ha => by
  refine ⟨_, ?_, h⟩
  unfold results
  rw [hr]
  simpa using And.intro (ha.at_ t v hl) (And.intro (ha.at_ u x hm) (ha.at_ z y hz))
theorem end0 (hr : fn.results = #[]) (h : R (.returned (.tuple #[])) w) : Ends P fn R .ret s w := fun _ _ => by
  refine ⟨_, ?_, h⟩
  unfold results
  rw [hr]
  simp
theorem end0n (hr : fn.results = #[]) (h : R (.returned (.tuple #[])) w) : Ends P fn R .normal s w := fun _ _ => by
  refine ⟨_, ?_, h⟩
  unfold results
  rw [hr]
  simp
end

/-! a guarded part of a region: 'A && B', 'A || B' -/
def Join (w : World) (s : Env) (pd : Nat) (b : Bool) : Cont := fun e s' w' => e = .normal ∧ w' = w ∧ look s' pd = some (.bool b) ∧ Sub s' s
section
variable {P : Program} {n : Nat} {ops : Array Oper} {K : Cont} {s : Env} {w : World}
theorem wpList_fin {K K' : Cont} {l : List Oper} {a : Act} {w : World} (h : wpList P ops (Fin n K) l a w) (hk : ∀ e s' w', K e s' w' → K' e s' w') : wpList P ops (Fin n K') l a w := by
  have hq : ∀ e a w, Fin n K e a w → Fin n K' e a w := fun e a w ⟨s, h1, h2⟩ => ⟨s, h1, hk _ _ _ h2⟩
  revert a w
  induction l with
  | nil => intro a w h; exact hq _ _ _ h
  | cons o r ih =>
    intro a w h
    unfold wpList at h ⊢
    split
    · rename_i hw
      rw [if_pos hw] at h
      rcases h with h | ⟨h1, a', w', h2⟩
      · left
        unfold Oper.wp at h ⊢
        generalize (execOp a.eval o).run P w = res at h
        unfold Oper.upon at h ⊢
        split
        · exact ih h
        · exact ih h
        · exact ih h
        · refine h.mono ?_
          intro e w' hh
          cases e with
          | returned v => exact ih hh
          | panicked ch => exact hq _ _ _ hh
          | outgrown => obtain ⟨a', w', h2⟩ := hh; exact ⟨a', w', hq _ _ _ h2⟩
        · refine h.mono ?_
          intro v w' hh
          exact ih hh
        · exact hq _ _ _ h
        · rename_i g1 g2 g3 g4 g5 g6
          split at h
          · exact (g1 _ _ rfl).elim
          · exact (g2 _ rfl).elim
          · exact (g3 _ _ rfl).elim
          · exact (g4 _ _ _ rfl).elim
          · exact (g5 _ _ _ rfl).elim
          · exact (g6 _ _ rfl).elim
          · exact h
      · exact .inr ⟨h1, a', w', hq _ _ _ h2⟩
    · rename_i hw
      rw [if_neg hw] at h
      exact ih h
theorem R_split (k : Nat) {l : List Oper} {M : Env → World → Prop} (h1 : RunE P n ops (l.take k) (fun e s' w' => e = .normal ∧ M s' w') s w) (h2 : ∀ s' w', M s' w' → RunE P n ops (l.drop k) K s' w') : RunE P n ops l K s w := by
  intro a ha
  have key : ∀ (l1 l2 : List Oper) (a : Act) (w : World), wpList P ops (Fin n fun e s' w' => e = .normal ∧ M s' w') l1 a w → (∀ s' w', M s' w' → RunE P n ops l2 K s' w') → wpList P ops (Fin n K) (l1 ++ l2) a w := by
    intro l1
    induction l1 with
    | nil =>
      rintro l2 a w ⟨s', hf, -, hm⟩ h
      exact h s' w hm a hf
    | cons o r ih =>
      intro l2 a w h1 h2
      rw [List.cons_append]
      unfold wpList at h1 ⊢
      split
      · rename_i hw
        rw [if_pos hw] at h1
        rcases h1 with h1 | ⟨-, a', w', s', -, he, -⟩
        · left
          unfold Oper.wp at h1 ⊢
          generalize (execOp a.eval o).run P w = res at h1
          unfold Oper.upon at h1 ⊢
          split
          · exact ih l2 _ _ h1 h2
          · exact ih l2 _ _ h1 h2
          · exact ih l2 _ _ h1 h2
          · refine h1.mono ?_
            intro e w' hq
            cases e with
            | returned v => exact ih l2 _ _ hq h2
            | panicked ch => obtain ⟨s', -, he, -⟩ := hq; cases he
            | outgrown => obtain ⟨a', w', s', -, he, -⟩ := hq; cases he
          · refine h1.mono ?_
            intro v w' hq
            exact ih l2 _ _ hq h2
          · obtain ⟨s', -, he, -⟩ := h1; cases he
          · rename_i g1 g2 g3 g4 g5 g6
            split at h1
            · exact (g1 _ _ rfl).elim
            · exact (g2 _ rfl).elim
            · exact (g3 _ _ rfl).elim
            · exact (g4 _ _ _ rfl).elim
            · exact (g5 _ _ _ rfl).elim
            · exact (g6 _ _ rfl).elim
            · exact h1
        · cases he
      · rename_i hw
        rw [if_neg hw] at h1
        exact ih l2 _ _ h1 h2
  have := key (l.take k) (l.drop k) a w (h1 a ha) h2
  rwa [List.take_append_drop] at this
theorem R_and (k pd d : Nat) {l : List Oper} {g b : Bool} (hl : look s d = some (.bool g)) (h1 : g = true → RunE P n ops (l.take k) (Join w s pd b) s w) (h2 : g = false → RunE P n ops (l.take k) (Join w s pd false) s w) (h3 : RunE P n ops (l.drop k) K ((pd, .bool (g && b)) :: s) w) : RunE P n ops l K s w := by
  refine R_split k (M := fun s' w' => w' = w ∧ Sub s' ((pd, .bool (g && b)) :: s)) ?_ ?_
  · intro a ha
    cases g with
    | true => exact (wpList_fin (h1 rfl a ha) fun e s' w' ⟨q1, q2, q3, q4⟩ => ⟨q1, q2, sub_cons (by simpa using q3) q4⟩)
    | false => exact (wpList_fin (h2 rfl a ha) fun e s' w' ⟨q1, q2, q3, q4⟩ => ⟨q1, q2, sub_cons (by simpa using q3) q4⟩)
  · rintro s' w' ⟨rfl, hs⟩
    exact R_sub hs h3
theorem R_or (k pd d : Nat) {l : List Oper} {g b : Bool} (hl : look s d = some (.bool g)) (h1 : g = true → RunE P n ops (l.take k) (Join w s pd true) s w) (h2 : g = false → RunE P n ops (l.take k) (Join w s pd b) s w) (h3 : RunE P n ops (l.drop k) K ((pd, .bool (g || b)) :: s) w) : RunE P n ops l K s w := by
  refine R_split k (M := fun s' w' => w' = w ∧ Sub s' ((pd, .bool (g || b)) :: s)) ?_ ?_
  · intro a ha
    cases g with
    | true => exact (wpList_fin (h1 rfl a ha) fun e s' w' ⟨q1, q2, q3, q4⟩ => ⟨q1, q2, sub_cons (by simpa using q3) q4⟩)
    | false => exact (wpList_fin (h2 rfl a ha) fun e s' w' ⟨q1, q2, q3, q4⟩ => ⟨q1, q2, sub_cons (by simpa using q3) q4⟩)
  · rintro s' w' ⟨rfl, hs⟩
    exact R_sub hs h3
theorem R_joined {pd : Nat} {b : Bool} {s' : Env} (h : look s' pd = some (.bool b)) (hs : Sub s' s) : RunE P n ops [] (Join w s pd b) s' w := R_nil ⟨rfl, rfl, h, hs⟩
theorem g_tt {o : Oper} {g : Bool} (hg : g = true) (h : guardE ops s o = some (g == true)) : guardE ops s o = some true := by rw [h, hg]; rfl
theorem g_ff {o : Oper} {g : Bool} (hg : g = false) (h : guardE ops s o = some (g == false)) : guardE ops s o = some true := by rw [h, hg]; rfl
theorem g_tf {o : Oper} {g : Bool} (hg : g = false) (h : guardE ops s o = some (g == true)) : guardE ops s o = some false := by rw [h, hg]; rfl
theorem g_ft {o : Oper} {g : Bool} (hg : g = true) (h : guardE ops s o = some (g == false)) : guardE ops s o = some false := by rw [h, hg]; rfl
end
section
variable {P : Program} {s : Env} {C : World → Prop} {d : Option Nat} {ty : TypeId} {pos : String} {af : Array Edge} {gd : Option (Nat × Bool)}
theorem ev_pick_t' {c x y : Operand} {g : Bool} {u : Value} (hg : g = true) (hc : evE s c = some (.bool g)) (hx : evE s x = some u) : Ev P s C ⟨d, .pick c x y, ty, pos, af, gd⟩ u := ev_pick_t (hg ▸ hc) hx
theorem ev_pick_f' {c x y : Operand} {g : Bool} {u : Value} (hg : g = false) (hc : evE s c = some (.bool g)) (hy : evE s y = some u) : Ev P s C ⟨d, .pick c x y, ty, pos, af, gd⟩ u := ev_pick_f (hg ▸ hc) hy
end

/-! regions that draw their order and only read, or whose calls stay in a class of worlds -/
def QuE (P : Program) (n : Nat) (ops : Array Oper) (C : World → Prop) (l : List Oper) (K : Env → Prop) (s : Env) : Prop := ∀ a, Fits n s a → wpQuiet P ops C (fun a' => ∃ s', Fits n s' a' ∧ K s') l a
section
variable {P : Program} {n : Nat} {ops : Array Oper} {C : World → Prop} {K : Env → Prop} {s : Env} {rest : List Oper} {d : Nat} {op : Op} {ty : TypeId} {pos : String} {af : Array Edge} {gd : Option (Nat × Bool)}
theorem quiet_post {K : Cont} {l : List Oper} {a : Act} (h : wpQuiet P ops C (fun a' => ∃ s', Fits n s' a' ∧ ∀ w', C w' → K .normal s' w') l a) : wpQuiet P ops C (fun a' => ∀ w', C w' → Fin n K .normal a' w') l a := by
  revert a
  induction l with
  | nil => rintro a ⟨s', h1, h2⟩ w' hw'; exact ⟨s', h1, h2 w' hw'⟩
  | cons o r ih =>
    intro a h
    unfold wpQuiet at h ⊢
    split
    · rename_i hw
      rw [if_pos hw] at h
      exact Oper.quiet_mono (fun _ => ih) h
    · rename_i hw
      rw [if_neg hw] at h
      exact ih h
theorem W_drawn {id : Nat} {l : List Oper} {w : World} {K : Cont} (C : World → Prop) (hm : P.follows .mixedOrders = true) (hB : Region.lexB .any l.toArray = true) (hC : C w.drew) (h : QuE P n l.toArray C l (fun s' => ∀ w', C w' → K .normal s' w') s) : Wp P n (.region id l.toArray true) K s w := by
  intro a ha
  refine wp_region_quiet (C := C) hm hB hC ?_
  simpa using quiet_post (h a ha)
theorem Q_nil (h : K s) : QuE P n ops C [] K s := fun _ ha => ⟨s, ha, h⟩
theorem Q_ev {v : Value} (h : Ev P s C ⟨some d, op, ty, pos, af, gd⟩ v) (hg : guardE ops s ⟨some d, op, ty, pos, af, gd⟩ = some true) (hd : Nat.ble (d + 1) n = true) (k : QuE P n ops C rest K ((d, v) :: s)) : QuE P n ops C (⟨some d, op, ty, pos, af, gd⟩ :: rest) K s := by
  intro a ha
  unfold wpQuiet
  rw [if_pos (guard_wanted ha hg)]
  refine ⟨v, fun w hw => ?_, k _ (ha.put v (Nat.le_of_ble_eq_true hd))⟩
  unfold Oper.quietAt
  rw [h a.eval (fun x u hx => ha.eval hx) w hw]
  exact ⟨rfl, rfl⟩
theorem Q_skip (hg : guardE ops s ⟨some d, op, ty, pos, af, gd⟩ = some false) (hd : Nat.ble (d + 1) n = true) (k : QuE P n ops C rest K ((d, undef) :: s)) : QuE P n ops C (⟨some d, op, ty, pos, af, gd⟩ :: rest) K s := by
  intro a ha
  unfold wpQuiet
  rw [if_neg (by rw [guard_wanted ha hg]; exact Bool.false_ne_true)]
  exact k _ (ha.put undef (Nat.le_of_ble_eq_true hd))
theorem Q_call {v : Value} {f : FuncId} {xs : List Operand} {ats : Array TypeId} {vs : List Value} (hf : Callable P f) (hv : evs s xs = some vs)
    (hg : guardE ops s ⟨some d, .call ⟨.value (.func f), xs.toArray, ats⟩, ty, pos, af, gd⟩ = some true) (hd : Nat.ble (d + 1) n = true)
    (h : ∀ w, C w → Calls P f vs.toArray w fun e w' => e = .returned v ∧ C w') (k : QuE P n ops C rest K ((d, v) :: s)) : QuE P n ops C (⟨some d, .call ⟨.value (.func f), xs.toArray, ats⟩, ty, pos, af, gd⟩ :: rest) K s := by
  intro a ha
  unfold wpQuiet
  rw [if_pos (guard_wanted ha hg)]
  refine ⟨v, fun w hw => ?_, k _ (ha.put v (Nat.le_of_ble_eq_true hd))⟩
  unfold Oper.quietAt
  rw [run_call_fn hf (evs_map (fun x u hx => ha.eval hx) hv) rfl]
  exact ⟨rfl, h w hw⟩
end
end Go.Proofs.Ytmbaennilhdieaa
