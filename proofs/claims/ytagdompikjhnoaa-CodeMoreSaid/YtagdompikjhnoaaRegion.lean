/- A region that draws its order, proved by an invariant over the set of operations done so far. Over any program. -/
import Derived.WalkKit
import Derived.KernelRfl
import Derived.Deep.Quiet
import Derived.Deep.QuietTactic
namespace Go.Proofs.Ytagdompikjhnoaa
open Go.RowKit

/-- every binding edge points to an earlier operation -/
def edgesBack (ops : Array Oper) : Bool := (List.range ops.size).all fun i => ((ops[i]?).map (·.after.all fun e => !Region.binds .any e || decide (e.on < i))).getD true

def left (n : Nat) (listed : Array Bool) : Nat := (List.range n).countP fun i => !listed.getD i true

theorem countP_lt {p q : Nat → Bool} : ∀ {l : List Nat} {i : Nat}, (∀ j, q j = true → p j = true) → i ∈ l → p i = true → q i = false → l.countP q < l.countP p
  | x :: l, i, hpq, hi, hp, hq => by
    have hle : l.countP q ≤ l.countP p := List.countP_mono_left fun j _ h => hpq j h
    rw [List.countP_cons, List.countP_cons]
    rcases List.mem_cons.1 hi with rfl | hm
    · simp [hp, hq]; omega
    · have := countP_lt hpq hm hp hq
      by_cases hx : q x = true
      · simp [hx, hpq x hx]; omega
      · simp [hx]; split <;> omega

theorem not_true_of {b : Bool} (h : (!b) = true) : b = false := by cases b <;> simp_all

theorem left_lt {n i : Nat} {listed : Array Bool} (hi : i < n) (hs : listed.size = n) (hl : listed.getD i true = false) : left n (listed.setIfInBounds i true) < left n listed := by
  unfold left
  refine countP_lt (i := i) ?_ (List.mem_range.2 hi) (by simp [hl]) ?_
  · intro j hj
    by_cases e : i = j
    · subst e; simp [hs, hi] at hj
    · simpa [Array.getElem?_setIfInBounds_ne e] using hj
  · simp [hs, hi]

theorem all_listed {ops : Array Oper} (he : edgesBack ops = true) {listed : Array Bool} (hr : Region.ready .any ops listed = []) : ∀ i, i < ops.size → listed.getD i true = true := by
  intro i
  induction i using Nat.strongRecOn with
  | _ i ih =>
    intro hi
    cases hl : listed.getD i true with
    | true => rfl
    | false =>
      exfalso
      have hm : i ∈ Region.ready .any ops listed := by
        unfold Region.ready
        rw [List.mem_filter]
        refine ⟨List.mem_range.2 hi, ?_⟩
        have ho : ops[i]? = some ops[i] := Array.getElem?_eq_getElem hi
        have hb := List.all_eq_true.1 he i (List.mem_range.2 hi)
        simp only [ho, Option.map_some, Option.getD_some] at hb
        simp only [hl, ho, Option.map_some, Option.getD_some, Bool.not_false, Bool.true_and]
        rw [Array.all_eq_true_iff_forall_mem] at hb ⊢
        intro e hem
        have h1 := hb e hem
        cases hbind : Region.binds .any e with
        | false => rfl
        | true =>
          simp only [hbind, Bool.not_true, Bool.false_or, decide_eq_true_eq] at h1 ⊢
          have h2 := ih e.on h1 (by omega)
          have h3 : e.on < listed.size := by
            rcases Nat.lt_or_ge e.on listed.size with h | h
            · exact h
            · exfalso
              have hn : listed.size ≤ i := by omega
              have : listed.getD i true = true := by simp [hn]
              rw [this] at hl; cases hl
          simpa [h3] using h2
      rw [hr] at hm
      cases hm

section
variable {P : Program} {ops : Array Oper} {Q : Exit → Act → World → Prop} {I : Array Bool → Act → World → Prop}

theorem wpAny_inv (he : edgesBack ops = true)
    (hstep : ∀ (L : Array Bool) (a : Act) (w : World) (i : Nat), L.size = ops.size → i ∈ Region.ready .any ops L → I L a w → wpOp P ops Q i (fun a' w' => I (L.setIfInBounds i true) a' w') a w)
    (hend : ∀ (L : Array Bool) (a : Act) (w : World), L.size = ops.size → (∀ i, i < ops.size → L.getD i true = true) → I L a w → Q .normal a w) :
    ∀ (fuel : Nat) (L : Array Bool) (a : Act) (w : World), L.size = ops.size → left ops.size L ≤ fuel → I L a w → wpAny P .any ops Q fuel L a w
  | 0, L, a, w, hs, hf, h => by
    have hr : Region.ready .any ops L = [] := by
      rw [List.eq_nil_iff_forall_not_mem]
      intro i hi
      unfold Region.ready at hi
      rw [List.mem_filter] at hi
      have h1 := left_lt (List.mem_range.1 hi.1) hs (not_true_of ((Bool.and_eq_true _ _).mp hi.2).1)
      omega
    exact ⟨hr, hend L a w hs (all_listed he hr) h⟩
  | fuel + 1, L, a, w, hs, hf, h => by
    refine ⟨fun hr => hend L a w hs (all_listed he hr) h, fun i hi => ?_⟩
    have hi' := hi
    unfold Region.ready at hi'
    rw [List.mem_filter] at hi'
    have h1 := left_lt (List.mem_range.1 hi'.1) hs (not_true_of ((Bool.and_eq_true _ _).mp hi'.2).1)
    exact wpOp_mono (fun a' w' h' => wpAny_inv he hstep hend fuel _ a' w' (by simpa using hs) (by omega) h') (hstep L a w i hs hi h)

theorem region_inv {id : Nat} {a : Act} {w : World} (hm : P.follows .mixedOrders = true) (he : edgesBack ops = true)
    (h0 : I (Array.replicate ops.size false) a w.drew)
    (hstep : ∀ (L : Array Bool) (a : Act) (w : World) (i : Nat), L.size = ops.size → i ∈ Region.ready .any ops L → I L a w → wpOp P ops Q i (fun a' w' => I (L.setIfInBounds i true) a' w') a w)
    (hend : ∀ (L : Array Bool) (a : Act) (w : World), L.size = ops.size → (∀ i, i < ops.size → L.getD i true = true) → I L a w → Q .normal a w) :
    (Code.region id ops true).wp P Q a w :=
  wp_region_any hm (wpAny_inv he hstep hend ops.size _ a _ (by simp) (by unfold left; exact Nat.le_trans List.countP_le_length (by simp)) h0)
end

/-- the slots of a frame as a function -/
def sl (a : Act) : Nat → Value := fun k => a.tmps.getD k undef
def ev (s : Nat → Value) : Operand → Value
  | .tmp t => s t
  | .const v => v
  | .global g => .pointer (some ⟨g, 0, none⟩)
  | .func f => .func (.func f) #[] #[]
theorem ev_eval (a : Act) : a.eval = ev (sl a) := by funext x; cases x <;> rfl
def up {β : Type} (f : Nat → β) (i : Nat) (v : β) : Nat → β := fun k => if k = i then v else f k
theorem up_same {β : Type} (f : Nat → β) (i : Nat) (v : β) : up f i v i = v := by simp [up]
theorem up_other {β : Type} (f : Nat → β) {i k : Nat} (v : β) (h : k ≠ i) : up f i v k = f k := by simp [up, h]
def upo (s : Nat → Value) (d : Option Nat) (v : Value) : Nat → Value :=
  match d with
  | some i => up s i v
  | none => s

def yieldF (ops : Array Oper) (s : Nat → Value) (j : Nat) : Option Bool :=
  match (ops[j]?).bind (·.dst) with
  | some d => (match s d with | .bool b => some b | _ => none)
  | none => none

theorem yield_eq (ops : Array Oper) (a : Act) : yielded ops a.tmps = yieldF ops (sl a) := by
  funext j
  unfold yielded yieldF sl
  cases (ops[j]?).bind (·.dst) with
  | none => rfl
  | some d =>
    simp only [Option.bind_some]
    rcases Nat.lt_or_ge d a.tmps.size with h | h
    · simp only [Array.getElem?_eq_getElem h, Array.getD_eq_getD_getElem?, Option.getD_some]
      cases a.tmps[d] <;> rfl
    · simp [h, undef]

theorem sl_put (a : Act) (d : Option Nat) (v : Value) (h : ∀ i, d = some i → i < a.tmps.size) : sl (a.put d v) = upo (sl a) d v := by
  cases d with
  | none => rfl
  | some i =>
    have hi := h i rfl
    funext k
    unfold sl upo up Act.put
    by_cases e : k = i
    · subst e; simp [hi]
    · simp [e, Array.getElem?_setIfInBounds_ne (Ne.symm e)]

/-- what one operation does, said of slots -/
def Runs (P : Program) (o : Oper) (s : Nat → Value) (w : World) (K : Value → World → Prop) : Prop :=
  match (execOp (ev s) o).run P w with
  | .ok (.value v) w' => K v w'
  | .ok .skip w' => K undef w'
  | .ok (.enter f args) w' => Calls P f args w' fun e w'' => ∃ v, e = .returned v ∧ K v w''
  | _ => False

theorem wp_of_runs {P : Program} {o : Oper} {a : Act} {w : World} {K : Act → World → Prop} {Q : Exit → Act → World → Prop} {K' : Value → World → Prop}
    (h : Runs P o (sl a) w K') (hk : ∀ v w', K' v w' → K (a.put o.dst v) w') : o.wp P a w K Q := by
  unfold Runs at h
  unfold Oper.wp
  rw [ev_eval]
  generalize (execOp (ev (sl a)) o).run P w = r at *
  cases r with
  | ok n w' =>
    cases n <;> simp only at h <;> simp only [Oper.upon]
    case value v => exact hk _ _ h
    case skip => exact hk _ _ h
    case enter f args =>
      refine h.mono ?_
      rintro e w'' ⟨v, rfl, hv⟩
      exact hk _ _ hv
  | halt x w' => exact h.elim

def dstsIn (ops : Array Oper) (n : Nat) : Bool := ops.all fun o => (o.dst.map fun d => decide (d < n)).getD true

theorem ready_spec {ops : Array Oper} {L : Array Bool} {i : Nat} (h : i ∈ Region.ready .any ops L) :
    ∃ o, ops[i]? = some o ∧ L.getD i true = false ∧ ∀ e ∈ o.after, Region.binds .any e = true → L.getD e.on false = true := by
  unfold Region.ready at h
  rw [List.mem_filter] at h
  obtain ⟨h1, h2⟩ := h
  have hi := List.mem_range.1 h1
  have ho : ops[i]? = some ops[i] := Array.getElem?_eq_getElem hi
  rw [Bool.and_eq_true] at h2
  refine ⟨ops[i], ho, not_true_of h2.1, fun e he hb => ?_⟩
  have h3 := h2.2
  simp only [ho, Option.map_some, Option.getD_some] at h3
  rw [Array.all_eq_true_iff_forall_mem] at h3
  have h4 := h3 e he
  simpa [hb] using h4

/-- A region that draws its order: an invariant over the operations done (l) and the slots (s). -/
theorem region_fun {P : Program} {ops : Array Oper} {Q : Exit → Act → World → Prop} {id n : Nat} {a0 : Act} {w0 : World} (J : (Nat → Bool) → (Nat → Value) → World → Prop)
    (hm : P.follows .mixedOrders = true) (he : edgesBack ops = true) (hn : a0.tmps.size = n) (hd : dstsIn ops n = true)
    (h0 : J (fun _ => false) (sl a0) w0.drew)
    (hstep : ∀ (i : Nat) (o : Oper) (l : Nat → Bool) (s : Nat → Value) (w : World), ops[i]? = some o → (∀ e ∈ o.after, Region.binds .any e = true → l e.on = true) → l i = false → J l s w →
      (Region.wanted o (yieldF ops s) = true → Runs P o s w fun v w' => J (up l i true) (upo s o.dst v) w') ∧ (Region.wanted o (yieldF ops s) = false → J (up l i true) (upo s o.dst undef) w))
    (hend : ∀ (l : Nat → Bool) (a : Act) (w : World), (∀ i, i < ops.size → l i = true) → a.tmps.size = n → a.defers = a0.defers → J l (sl a) w → Q .normal a w) :
    (Code.region id ops true).wp P Q a0 w0 := by
  refine region_inv (I := fun L a w => a.tmps.size = n ∧ a.defers = a0.defers ∧ J (fun k => L.getD k false) (sl a) w) hm he ?_ ?_ ?_
  · refine ⟨hn, rfl, ?_⟩
    have : (fun k => (Array.replicate ops.size false).getD k false) = fun _ => false := by
      funext k
      simp only [Array.getD_eq_getD_getElem?, Array.getElem?_replicate]
      split <;> rfl
    rw [this]
    exact h0
  · rintro L a w i hs hi ⟨h1, h2, h3⟩
    obtain ⟨o, ho, hl, hdep⟩ := ready_spec hi
    have hio : i < ops.size := (Array.getElem?_eq_some_iff.1 ho).1
    have hdst : ∀ d, o.dst = some d → d < a.tmps.size := by
      intro d hod
      have h5 := (Array.all_eq_true_iff_forall_mem.1 hd) o (Array.mem_of_getElem? ho)
      rw [hod] at h5
      simpa [h1] using h5
    have hL : (fun k => (L.setIfInBounds i true).getD k false) = up (fun k => L.getD k false) i true := by
      funext k
      unfold up
      by_cases e : k = i
      · subst e; simp [hs, hio]
      · simp [e, Array.getElem?_setIfInBounds_ne (Ne.symm e)]
    have hli : L.getD i false = false := by
      have : i < L.size := by omega
      simpa [this] using hl
    have h4 := hstep i o (fun k => L.getD k false) (sl a) w ho hdep hli h3
    unfold wpOp
    simp only [ho]
    have hsz : ∀ v, (a.put o.dst v).tmps.size = n := by intro v; cases hod : o.dst <;> simp [Act.put, h1]
    have hdf : ∀ v, (a.put o.dst v).defers = a0.defers := by intro v; cases hod : o.dst <;> simp [Act.put, h2]
    rw [yield_eq]
    cases hw : Region.wanted o (yieldF ops (sl a)) with
    | true =>
      simp only [if_true]
      refine .inl (wp_of_runs (h4.1 hw) fun v w' hj => ⟨hsz v, hdf v, ?_⟩)
      rw [hL, sl_put a o.dst v hdst]
      exact hj
    | false =>
      simp only [Bool.false_eq_true, if_false]
      refine ⟨hsz _, hdf _, ?_⟩
      rw [hL, sl_put a o.dst undef hdst]
      exact h4.2 hw
  · rintro L a w hs hall ⟨h1, h2, h3⟩
    refine hend _ a w (fun i hi => ?_) h1 h2 h3
    have : i < L.size := by omega
    simpa [this] using hall i hi

/-- the same, the invariant told the slots as they were -/
theorem region_fun0 {P : Program} {ops : Array Oper} {Q : Exit → Act → World → Prop} {id n : Nat} {a0 : Act} {w0 : World} (J : (Nat → Value) → (Nat → Bool) → (Nat → Value) → World → Prop)
    (hm : P.follows .mixedOrders = true) (he : edgesBack ops = true) (hn : a0.tmps.size = n) (hd : dstsIn ops n = true)
    (h0 : J (sl a0) (fun _ => false) (sl a0) w0.drew)
    (hstep : ∀ (i : Nat) (o : Oper) (l : Nat → Bool) (s : Nat → Value) (w : World), ops[i]? = some o → (∀ e ∈ o.after, Region.binds .any e = true → l e.on = true) → l i = false → J (sl a0) l s w →
      (Region.wanted o (yieldF ops s) = true → Runs P o s w fun v w' => J (sl a0) (up l i true) (upo s o.dst v) w') ∧ (Region.wanted o (yieldF ops s) = false → J (sl a0) (up l i true) (upo s o.dst undef) w))
    (hend : ∀ (l : Nat → Bool) (a : Act) (w : World), (∀ i, i < ops.size → l i = true) → a.tmps.size = n → a.defers = a0.defers → J (sl a0) l (sl a) w → Q .normal a w) :
    (Code.region id ops true).wp P Q a0 w0 := region_fun (J (sl a0)) hm he hn hd h0 hstep hend

theorem cons_of_len {n : Nat} {l : List Value} (h : l.length = n + 1) : ∃ x t, l = x :: t ∧ t.length = n := by
  cases l with
  | nil => simp at h
  | cons x t => exact ⟨x, t, rfl, by simpa using h⟩
theorem nil_of_len {l : List Value} (h : l.length = 0) : l = [] := List.eq_nil_of_length_eq_zero h

section
variable {P : Program} {ops : Array Oper} {C : World → Prop} {Q : Act → Prop} {a : Act} {o : Oper} {rest : List Oper}
/-- In a region whose calls may only make new memory: an operation that yields v in every world of the class. -/
theorem quiet_val (v : Value) (hw : Region.wanted o (yielded ops a.tmps) = true) (hr : ∀ w, C w → (execOp a.eval o).run P w = .ok (.value v) w) (h : wpQuiet P ops C Q rest (a.put o.dst v)) : wpQuiet P ops C Q (o :: rest) a := by
  unfold wpQuiet
  rw [if_pos hw]
  refine ⟨v, fun w hC => ?_, h⟩
  unfold Oper.quietAt
  rw [hr w hC]
  exact ⟨rfl, rfl⟩
theorem quiet_call (v : Value) (f : FuncId) (args : Array Value) (hw : Region.wanted o (yielded ops a.tmps) = true) (hr : ∀ w, (execOp a.eval o).run P w = .ok (.enter f args) w)
    (hc : ∀ w, C w → Calls P f args w fun e w' => e = .returned v ∧ C w') (h : wpQuiet P ops C Q rest (a.put o.dst v)) : wpQuiet P ops C Q (o :: rest) a := by
  unfold wpQuiet
  rw [if_pos hw]
  refine ⟨v, fun w hC => ?_, h⟩
  unfold Oper.quietAt
  rw [hr w]
  exact ⟨rfl, hc w hC⟩
end
theorem run_load_row {P : Program} {w : World} {b : Nat} {t ty : TypeId} {cs : Array Value} {d : TypeDesc} {ρ : Operand → Value} {o : Oper} {x : Operand} (ho : o.op = .load ty x) (hx : ρ x = .pointer (some ⟨b, 0, none⟩)) (hb : w.heap[b]? = some (.cells cs t (0, 0)))
    (hu : P.underlying ty = some d) (hd : (match d with | .struct _ | .array _ _ => true | _ => false) = true) (hi : (P.info? ty).map (·.size) = some cs.size) :
    (execOp ρ o).run P w = .ok (.value (.agg cs)) w := by
  unfold execOp
  simp only [ho, hx, Instr.loadAt, Instr.sureAddr, Sem.run_bind, Sem.run_pure, Result.andThen_ok, run_loadVar_row w b t ty cs (0, 0) d hb hu hd hi]
end Go.Proofs.Ytagdompikjhnoaa
