/- A walk by small steps: a frame is a list of known slots, newest first. Over any program. -/
import Derived.Test.YtmbaennilhdieaaMem
import Derived.Orders
import Derived.KernelRfl
import Derived.Deep.Quiet
import Derived.Deep.LoopGhost
namespace Go.Proofs.Ytmbaennilhdieaa
open Go.RowKit

abbrev Env := List (Nat × Value)
def look : Env → Nat → Option Value
  | [], _ => none
  | (k, v) :: r, i => bif Nat.beq k i then some v else look r i
def evE (s : Env) : Operand → Option Value
  | .tmp t => look s t
  | .const v => some v
  | .global g => some (.pointer (some ⟨g, 0, none⟩))
  | .func f => some (.func (.func f) #[] #[])
structure Fits (n : Nat) (s : Env) (a : Act) : Prop where
  size : a.tmps.size = n
  defers : a.defers = []
  at_ : ∀ k v, look s k = some v → a.tmps.getD k undef = v
/-- env s knows all that t knows -/
def Sub (s t : Env) : Prop := ∀ k v, look t k = some v → look s k = some v
theorem sub_refl {s : Env} : Sub s s := fun _ _ h => h
theorem sub_nil {s : Env} : Sub s [] := fun _ _ h => (by cases h)
theorem look_cons (s : Env) (d k : Nat) (v : Value) : look ((d, v) :: s) k = if d = k then some v else look s k := by
  show (bif Nat.beq d k then some v else look s k) = _
  by_cases h : d = k
  · subst h; simp
  · rw [if_neg h]
    have : Nat.beq d k = false := by cases hb : Nat.beq d k with
      | false => rfl
      | true => exact absurd (Nat.eq_of_beq_eq_true hb) h
    rw [this]; rfl
theorem sub_cons {s t : Env} {k : Nat} {v : Value} (h : look s k = some v) (ht : Sub s t) : Sub s ((k, v) :: t) := fun j u hj => by
  rw [look_cons] at hj
  by_cases e : k = j
  · subst e; rw [if_pos rfl] at hj; rw [h, hj]
  · rw [if_neg e] at hj; exact ht j u hj
theorem sub_skip {s t : Env} {k : Nat} {v : Value} (ht : Sub s t) (h : look t k = none) : Sub ((k, v) :: s) t := fun j u hj => by
  rw [look_cons]
  by_cases e : k = j
  · subst e; rw [h] at hj; cases hj
  · rw [if_neg e]; exact ht j u hj
theorem look_sub {s t : Env} {k : Nat} {v : Value} (hs : Sub s t) (h : look t k = some v) : look s k = some v := hs k v h
theorem Fits.eval {n : Nat} {s : Env} {a : Act} (h : Fits n s a) {x : Operand} {v : Value} (hx : evE s x = some v) : a.eval x = v := by
  cases x with
  | tmp t => exact h.at_ t v hx
  | const u => exact Option.some.inj hx
  | global g => exact Option.some.inj hx
  | func f => exact Option.some.inj hx
theorem Fits.put {n : Nat} {s : Env} {a : Act} (h : Fits n s a) {d : Nat} (v : Value) (hd : d < n) : Fits n ((d, v) :: s) (a.put (some d) v) := by
  refine ⟨by simp [Act.put, h.size], h.defers, fun k u hk => ?_⟩
  rw [look_cons] at hk
  have hd' : d < a.tmps.size := by rw [h.size]; exact hd
  by_cases e : d = k
  · subst e
    rw [if_pos rfl] at hk
    simp [Act.put, hd', Option.some.inj hk]
  · rw [if_neg e] at hk
    have := h.at_ k u hk
    simpa [Act.put, Array.getElem?_setIfInBounds_ne e] using this
/-- a slot that is no longer known is forgotten -/
def drop1 (d : Nat) : Env → Env
  | [] => []
  | (k, v) :: r => bif Nat.beq k d then drop1 d r else (k, v) :: drop1 d r

abbrev Cont := Exit → Env → World → Prop
def Fin (n : Nat) (K : Cont) : Exit → Act → World → Prop := fun e a w => ∃ s, Fits n s a ∧ K e s w
def Wp (P : Program) (n : Nat) (c : Code) (K : Cont) (s : Env) (w : World) : Prop := ∀ a, Fits n s a → c.wp P (Fin n K) a w
def nxt (N : Env → World → Prop) (K : Cont) : Cont
  | .normal, s, w => N s w
  | e, s, w => K e s w
def blk (id : Nat) (K : Cont) : Cont
  | .exit j, s, w => bif Nat.beq j id then K .normal s w else K (.exit j) s w
  | e, s, w => K e s w

section
variable {P : Program} {n : Nat} {K : Cont} {s : Env} {w : World}
end

/-! regions -/
def RunE (P : Program) (n : Nat) (ops : Array Oper) (l : List Oper) (K : Cont) (s : Env) (w : World) : Prop := ∀ a, Fits n s a → wpList P ops (Fin n K) l a w
/-- an operation yields v in every world of the class C, and leaves the world alone -/
def Ev (P : Program) (s : Env) (C : World → Prop) (o : Oper) (v : Value) : Prop := ∀ ρ : Operand → Value, (∀ x u, evE s x = some u → ρ x = u) → ∀ w, C w → (execOp ρ o).run P w = .ok (.value v) w
def guardE (ops : Array Oper) (s : Env) (o : Oper) : Option Bool :=
  match o.guard with
  | none => some true
  | some (j, want) =>
    match (ops[j]?).bind (·.dst) with
    | none => none
    | some d =>
      match look s d with
      | some (.bool b) => some (b == want)
      | some _ => some false
      | none => none
theorem guard_wanted {n : Nat} {ops : Array Oper} {s : Env} {a : Act} {o : Oper} {b : Bool} (ha : Fits n s a) (h : guardE ops s o = some b) : Region.wanted o (yielded ops a.tmps) = b := by
  unfold guardE at h
  unfold Region.wanted
  cases hg : o.guard with
  | none => rw [hg] at h; simpa using h
  | some p =>
    obtain ⟨j, want⟩ := p
    rw [hg] at h
    simp only at h ⊢
    unfold yielded
    cases hd : (ops[j]?).bind (·.dst) with
    | none => rw [hd] at h; cases h
    | some d =>
      rw [hd] at h
      simp only at h
      cases hl : look s d with
      | none => rw [hl] at h; cases h
      | some v =>
        rw [hl] at h
        have hv := ha.at_ d v hl
        cases v with
        | bool c =>
          simp only [Option.some.injEq] at h
          have : a.tmps[d]? = some (.bool c) := by
            rcases Nat.lt_or_ge d a.tmps.size with hlt | hge
            · simp [hlt] at hv; simp [hlt, hv]
            · simp [hge, undef] at hv
          simp only [Option.bind_some, this]
          rw [← h]
          cases c <;> cases want <;> rfl
        | _ =>
          have hs : some false = some b := h
          have hb := Option.some.inj hs
          subst hb
          simp only [Option.bind_some]
          rcases Nat.lt_or_ge d a.tmps.size with hlt | hge
          · simp [hlt] at hv; simp [hlt, hv]
          · simp [hge]

section
variable {P : Program} {n : Nat} {ops : Array Oper} {K : Cont} {s : Env} {w : World} {o : Oper} {rest : List Oper} {d : Nat} {op : Op} {ty : TypeId} {pos : String} {af : Array Edge} {gd : Option (Nat × Bool)}
def evs (s : Env) : List Operand → Option (List Value)
  | [] => some []
  | x :: r => match evE s x, evs s r with
    | some v, some l => some (v :: l)
    | _, _ => none
theorem evs_map {s : Env} {ρ : Operand → Value} (h : ∀ x u, evE s x = some u → ρ x = u) : ∀ {l : List Operand} {vs : List Value}, evs s l = some vs → l.map ρ = vs
  | [], vs, e => by simp [evs] at e; simp [e]
  | x :: r, vs, e => by
    unfold evs at e
    cases hx : evE s x with
    | none => rw [hx] at e; cases e
    | some v =>
      cases hr : evs s r with
      | none => rw [hx, hr] at e; cases e
      | some l =>
        rw [hx, hr] at e
        simp only [Option.some.injEq] at e
        rw [List.map_cons, h x v hx, evs_map h hr, e]
/-- function f has a body in Go -/
def Callable (P : Program) (f : FuncId) : Prop := ∃ fn : Func, P.funcs[f]? = some fn ∧ fn.body.isNone = false ∧ (fn.name == "runtime.NumGoroutine") = false
theorem run_call_fn {ρ : Operand → Value} {d : Option Nat} {f : FuncId} {xs : List Operand} {ats : Array TypeId} {vs : List Value} (hf : Callable P f) (hv : xs.map ρ = vs) (hρ : ρ (.func f) = .func (.func f) #[] #[]) :
    (execOp ρ ⟨d, .call ⟨.value (.func f), xs.toArray, ats⟩, ty, pos, af, gd⟩).run P w = .ok (.enter f vs.toArray) w := by
  unfold execOp
  simp only [resolve, hρ, Deferred.ofValue, List.map_toArray, hv]
  obtain ⟨fn, hf, hb, hn⟩ := hf
  have hn' : ¬ fn.name = "runtime.NumGoroutine" := by simpa using hn
  have hb' : ¬ fn.body = none := by intro h; rw [h] at hb; cases hb
  simp [invoke, callFunc, hf, hb', hn', Sem.run_bind]
end

/-! what the operations yield -/
section
variable {P : Program} {s : Env} {C : World → Prop} {d : Option Nat} {ty : TypeId} {pos : String} {af : Array Edge} {gd : Option (Nat × Bool)}
theorem ev_move {x : Operand} {v : Value} (h : evE s x = some v) : Ev P s C ⟨d, .move x, ty, pos, af, gd⟩ v := fun ρ hρ w _ => by
  show (Sem.pure (Next.value (ρ x))).run P w = _
  rw [hρ x v h]; rfl
theorem ev_assign {x : Operand} {v : Value} (h : evE s x = some v) : Ev P s C ⟨d, .assign x, ty, pos, af, gd⟩ v := fun ρ hρ w _ => by
  show (Sem.pure (Next.value (ρ x))).run P w = _
  rw [hρ x v h]; rfl
theorem ev_pick_t {c x y : Operand} {u : Value} (hc : evE s c = some (.bool true)) (hx : evE s x = some u) : Ev P s C ⟨d, .pick c x y, ty, pos, af, gd⟩ u := fun ρ hρ w _ => by
  unfold execOp
  simp only [hρ c _ hc, hρ x _ hx]
  rfl
theorem ev_pick_f {c x y : Operand} {u : Value} (hc : evE s c = some (.bool false)) (hy : evE s y = some u) : Ev P s C ⟨d, .pick c x y, ty, pos, af, gd⟩ u := fun ρ hρ w _ => by
  unfold execOp
  simp only [hρ c _ hc, hρ y _ hy]
  rfl
theorem ev_not {t : TypeId} {x : Operand} {b : Bool} (h : evE s x = some (.bool b)) : Ev P s C ⟨d, .unOp .not t x, ty, pos, af, gd⟩ (.bool (!b)) := fun ρ hρ w _ => by
  unfold execOp
  simp only [hρ x _ h]
  rfl
theorem ev_extract {x : Operand} {i : Nat} {vs : Array Value} {v : Value} (h : evE s x = some (.tuple vs)) (hi : vs[i]? = some v) : Ev P s C ⟨d, .extract x i, ty, pos, af, gd⟩ v := fun ρ hρ w _ => by
  unfold execOp
  simp only [hρ x _ h, Instr.extract, hi]
  rfl
theorem ev_nilCheck {x : Operand} {a : Addr} (h : evE s x = some (.pointer (some a))) : Ev P s C ⟨d, .nilCheck x, ty, pos, af, gd⟩ (.pointer (some a)) := fun ρ hρ w _ => by
  unfold execOp
  simp only [hρ x _ h]
  rfl
theorem ev_bin {b : BinOp} {t u : TypeId} {x y : Operand} {p q v : Value} (hx : evE s x = some p) (hy : evE s y = some q) (hr : ∀ w, (do eqGuard b t x y p q; binOp b t p q : Sem Value).run P w = .ok v w) : Ev P s C ⟨d, .binOp b t x y u, ty, pos, af, gd⟩ v := fun ρ hρ w _ => by
  unfold execOp
  simp only [hρ x _ hx, hρ y _ hy]
  have := hr w
  rw [Sem.run_bind, this]
  rfl
theorem wrap64_in {z : Int} (h1 : -9223372036854775808 ≤ z) (h2 : z ≤ 9223372036854775807) : IntKind.i64.wrap z = z := IntWalk.i64_in z ⟨by omega, by omega⟩
theorem ev_add {t u : TypeId} {x y : Operand} {a b : Int} (hx : evE s x = some (.int .i64 a)) (hy : evE s y = some (.int .i64 b)) (h1 : -9223372036854775808 ≤ a + b) (h2 : a + b ≤ 9223372036854775807) : Ev P s C ⟨d, .binOp .add t x y u, ty, pos, af, gd⟩ (.int .i64 (a + b)) :=
  ev_bin hx hy fun w => (show Result.ok (Value.int .i64 (IntKind.i64.wrap (a + b))) w = _ by rw [wrap64_in h1 h2])
theorem ev_sub {t u : TypeId} {x y : Operand} {a b : Int} (hx : evE s x = some (.int .i64 a)) (hy : evE s y = some (.int .i64 b)) (h1 : -9223372036854775808 ≤ a - b) (h2 : a - b ≤ 9223372036854775807) : Ev P s C ⟨d, .binOp .sub t x y u, ty, pos, af, gd⟩ (.int .i64 (a - b)) :=
  ev_bin hx hy fun w => (show Result.ok (Value.int .i64 (IntKind.i64.wrap (a - b))) w = _ by rw [wrap64_in h1 h2])
theorem ev_mul {t u : TypeId} {x y : Operand} {a b : Int} (hx : evE s x = some (.int .i64 a)) (hy : evE s y = some (.int .i64 b)) (h1 : -9223372036854775808 ≤ a * b) (h2 : a * b ≤ 9223372036854775807) : Ev P s C ⟨d, .binOp .mul t x y u, ty, pos, af, gd⟩ (.int .i64 (a * b)) :=
  ev_bin hx hy fun w => (show Result.ok (Value.int .i64 (IntKind.i64.wrap (a * b))) w = _ by rw [wrap64_in h1 h2])
theorem ev_rem {t u : TypeId} {x y : Operand} {a b : Int} (hx : evE s x = some (.int .i64 a)) (hy : evE s y = some (.int .i64 b)) (h : b ≠ 0) : Ev P s C ⟨d, .binOp .rem t x y u, ty, pos, af, gd⟩ (.int .i64 (a.tmod b)) :=
  ev_bin hx hy fun w => (by show (Op.intDiv .rem .i64 a b).run P w = _; unfold Op.intDiv; rw [if_neg h]; rfl)
theorem ev_quo {t u : TypeId} {x y : Operand} {a b : Int} (hx : evE s x = some (.int .i64 a)) (hy : evE s y = some (.int .i64 b)) (h : b ≠ 0) (h1 : -9223372036854775808 ≤ a.tdiv b) (h2 : a.tdiv b ≤ 9223372036854775807) : Ev P s C ⟨d, .binOp .quo t x y u, ty, pos, af, gd⟩ (.int .i64 (a.tdiv b)) :=
  ev_bin hx hy fun w => (by show (Op.intDiv .quo .i64 a b).run P w = _; unfold Op.intDiv; rw [if_neg h]; show Result.ok (Value.int .i64 (IntKind.i64.wrap (a.tdiv b))) w = _; rw [wrap64_in h1 h2])
theorem ev_lt {t u : TypeId} {x y : Operand} {k : IntKind} {a b : Int} (hx : evE s x = some (.int k a)) (hy : evE s y = some (.int k b)) : Ev P s C ⟨d, .binOp .lss t x y u, ty, pos, af, gd⟩ (.bool (decide (a < b))) :=
  ev_bin hx hy fun w => by cases k <;> rfl
theorem ev_le {t u : TypeId} {x y : Operand} {k : IntKind} {a b : Int} (hx : evE s x = some (.int k a)) (hy : evE s y = some (.int k b)) : Ev P s C ⟨d, .binOp .leq t x y u, ty, pos, af, gd⟩ (.bool (decide (a ≤ b))) :=
  ev_bin hx hy fun w => by cases k <;> rfl
theorem ev_gt {t u : TypeId} {x y : Operand} {k : IntKind} {a b : Int} (hx : evE s x = some (.int k a)) (hy : evE s y = some (.int k b)) : Ev P s C ⟨d, .binOp .gtr t x y u, ty, pos, af, gd⟩ (.bool (decide (b < a))) :=
  ev_bin hx hy fun w => by cases k <;> rfl
theorem ev_ge {t u : TypeId} {x y : Operand} {k : IntKind} {a b : Int} (hx : evE s x = some (.int k a)) (hy : evE s y = some (.int k b)) : Ev P s C ⟨d, .binOp .geq t x y u, ty, pos, af, gd⟩ (.bool (decide (b ≤ a))) :=
  ev_bin hx hy fun w => by cases k <;> rfl
theorem ev_eq {t u : TypeId} {x y : Operand} {k : IntKind} {a b : Int} (hx : evE s x = some (.int k a)) (hy : evE s y = some (.int k b)) : Ev P s C ⟨d, .binOp .eql t x y u, ty, pos, af, gd⟩ (.bool (decide (a = b))) :=
  ev_bin hx hy fun w => by cases k <;> rfl
theorem ev_ne {t u : TypeId} {x y : Operand} {k : IntKind} {a b : Int} (hx : evE s x = some (.int k a)) (hy : evE s y = some (.int k b)) : Ev P s C ⟨d, .binOp .neq t x y u, ty, pos, af, gd⟩ (.bool (!decide (a = b))) :=
  ev_bin hx hy fun w => by cases k <;> rfl
/-- any operation, run in the frame's own words -/
def evT (s : Env) (x : Operand) : Value := (evE s x).getD undef
end

/-! a call's beginning and end -/
def envOf : List Value → Nat → Env
  | [], _ => []
  | v :: r, i => (i, v) :: envOf r (i + 1)
theorem look_envOf : ∀ (l : List Value) (i k : Nat) (v : Value), look (envOf l i) k = some v → i ≤ k ∧ l[k - i]? = some v
  | [], _, _, _, h => by cases h
  | u :: r, i, k, v, h => by
    unfold envOf at h
    rw [look_cons] at h
    by_cases e : i = k
    · subst e; rw [if_pos rfl] at h; simpa using h
    · rw [if_neg e] at h
      obtain ⟨h1, h2⟩ := look_envOf r (i + 1) k v h
      refine ⟨by omega, ?_⟩
      rw [show k - i = (k - (i + 1)) + 1 by omega, List.getElem?_cons_succ]
      exact h2
def Ends (P : Program) (fn : Func) (R : Ending → World → Prop) : Cont
  | .normal, s, w | .ret, s, w => ∀ a, Fits fn.ntmps s a → ∃ v, (results fn a.tmps).run P w = .ok v w ∧ R (.returned v) w
  | _, _, _ => False
section
variable {P : Program} {fn : Func} {R : Ending → World → Prop} {s : Env} {w : World}
end

/-! a guarded part of a region: 'A && B', 'A || B' -/
def Join (w : World) (s : Env) (pd : Nat) (b : Bool) : Cont := fun e s' w' => e = .normal ∧ w' = w ∧ look s' pd = some (.bool b) ∧ Sub s' s
section
variable {P : Program} {n : Nat} {ops : Array Oper} {K : Cont} {s : Env} {w : World}
theorem g_tt {o : Oper} {g : Bool} (hg : g = true) (h : guardE ops s o = some (g == true)) : guardE ops s o = some true := by rw [h, hg]; rfl
theorem g_ff {o : Oper} {g : Bool} (hg : g = false) (h : guardE ops s o = some (g == false)) : guardE ops s o = some true := by rw [h, hg]; rfl
theorem g_tf {o : Oper} {g : Bool} (hg : g = false) (h : guardE ops s o = some (g == true)) : guardE ops s o = some false := by rw [h, hg]; rfl
theorem g_ft {o : Oper} {g : Bool} (hg : g = true) (h : guardE ops s o = some (g == false)) : guardE ops s o = some false := by rw [h, hg]; rfl
end
section
variable {P : Program} {s : Env} {C : World → Prop} {d : Option Nat} {ty : TypeId} {pos : String} {af : Array Edge} {gd : Option (Nat × Bool)}
theorem ev_pick_t' {c x y : Operand} {g : Bool} {u : Value} (hg : g = true) (hc : evE s c = some (.bool g)) (hx : evE s x = some u) : Ev P s C ⟨d, .pick c x y, ty, pos, af, gd⟩ u := ev_pick_t (hg ▸ hc) hx
theorem ev_pick_f' {c x y : Operand} {g : Bool} {u : Value} (hg : g = false) (hc : evE s c = some (.bool g)) (hy : evE s y = some u) : Ev P s C ⟨d, .pick c x y, ty, pos, af, gd⟩ u := ev_pick_f (hg ▸ hc) hy
end

/-! regions that draw their order and only read, or whose calls stay in a class of worlds -/
def QuE (P : Program) (n : Nat) (ops : Array Oper) (C : World → Prop) (l : List Oper) (K : Env → Prop) (s : Env) : Prop := ∀ a, Fits n s a → wpQuiet P ops C (fun a' => ∃ s', Fits n s' a' ∧ K s') l a
section
variable {P : Program} {n : Nat} {ops : Array Oper} {C : World → Prop} {K : Env → Prop} {s : Env} {rest : List Oper} {d : Nat} {op : Op} {ty : TypeId} {pos : String} {af : Array Edge} {gd : Option (Nat × Bool)}
end
end Go.Proofs.Ytmbaennilhdieaa
