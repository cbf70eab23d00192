/- The walk over chunks: function values; loops over a function. Over any program. -/
import Derived.Test.YtmbaennilhdieaaA9
namespace Go.Proofs.Ytmbaennilhdieaa
open Go.RowKit

/-- a function value that reads what G says and yields what φ says -/
def FnOk {α β : Type} (P : Program) (v : Value) (G : List Chunk) (en : α → List Value) (ev : β → Value) (φ : α → Option β) : Prop :=
  (∀ c ∈ G, c.ro = true) ∧ ∃ f bs caps, v = .func (.func f) bs caps ∧ Callable P f ∧ ∀ x r, φ x = some r → Okc P f (bs.toList ++ (en x ++ caps.toList)) G fun u post => u = ev r ∧ post = []
theorem run_callv {P : Program} {ρ : Operand → Value} {d : Option Nat} {ty : TypeId} {pos : String} {af : Array Edge} {gd : Option (Nat × Bool)} {w : World} {f : FuncId} {x : Operand} {xs : List Operand} {ats : Array TypeId} {vs : List Value} {bs caps : Array Value} (hf : Callable P f) (hv : xs.map ρ = vs) (hρ : ρ x = .func (.func f) bs caps) :
    (execOp ρ ⟨d, .call ⟨.value x, xs.toArray, ats⟩, ty, pos, af, gd⟩).run P w = .ok (.enter f (bs.toList ++ (vs ++ caps.toList)).toArray) w := by
  unfold execOp
  simp only [resolve, hρ, Deferred.ofValue, List.map_toArray, hv]
  obtain ⟨fn, hf, hb, hn⟩ := hf
  have hn' : ¬ fn.name = "runtime.NumGoroutine" := by simpa using hn
  have hb' : ¬ fn.body = none := by intro h; rw [h] at hb; cases hb
  simp [invoke, callFunc, hf, hb', hn', Sem.run_bind]
/-- E ++ (G ++ Z) with G taken to the front, and back -/
theorem cv_mid (E G Z : List Chunk) : Cv (E ++ (G ++ Z)) (G ++ (E ++ Z)) := fun Z2 w h => by
  refine SepL.pick (L := (E ++ (G ++ Z)) ++ Z2) h (fun j => if j < G.length then j + E.length else if j < G.length + E.length then j - G.length else j) ?_ ?_
  · intro j c hj
    simp only [List.append_assoc] at hj ⊢
    by_cases h1 : j < G.length
    · rw [List.getElem?_append_left h1] at hj
      simp only [h1, if_true]
      rw [List.getElem?_append_right (by omega), Nat.add_sub_cancel, List.getElem?_append_left h1]
      exact hj
    · simp only [h1, if_false]
      rw [List.getElem?_append_right (by omega)] at hj
      by_cases h2 : j < G.length + E.length
      · simp only [h2, if_true]
        rw [List.getElem?_append_left (by omega)] at hj
        rw [List.getElem?_append_left (by omega)]
        exact hj
      · simp only [h2, if_false]
        rw [List.getElem?_append_right (by omega)] at hj
        rw [List.getElem?_append_right (by omega), List.getElem?_append_right (by omega)]
        rw [show j - E.length - G.length = j - G.length - E.length by omega]
        exact hj
  · intro i j _ _ e
    split at e <;> split at e <;> (try split at e) <;> (try split at e) <;> omega
section
variable {P : Program} {s : Env} {d : Option Nat} {ty : TypeId} {pos : String} {af : Array Edge} {gd : Option (Nat × Bool)}
theorem lent_in {L : List Chunk} {c : Chunk} (h : c ∈ L) (hc : c.ro = true) : Lent L c := by
  obtain ⟨i, hi⟩ := List.getElem?_of_mem h
  exact lent_ro hi hc
theorem lent_tail {E G : List Chunk} (hG : ∀ c ∈ G, c.ro = true) : ∀ c ∈ G, Lent (E ++ G) c := fun c hc => lent_in (List.mem_append_right _ hc) (hG c hc)
theorem cv_selD {L : List Chunk} (ix : List Nat) (k : Nat) (hk : okIx ix k = true) (hl : Nat.ble k L.length = true) : Cv L (ix.filterMap fun i => L[i]?) := (cv_sel ix k hk hl).trans fun Z w h => by
  unfold selL at h
  refine SepL.pick (L' := (ix.filterMap fun i => L[i]?) ++ Z) h (fun j => if j < (ix.filterMap fun i => L[i]?).length then j else j + (L.drop k).length) ?_ ?_
  · intro j c hj
    by_cases hlt : j < (ix.filterMap fun i => L[i]?).length
    · simp only [hlt, if_true]
      rw [List.getElem?_append_left hlt] at hj
      rw [List.append_assoc, List.getElem?_append_left hlt]
      exact hj
    · simp only [hlt, if_false]
      rw [List.getElem?_append_right (by omega)] at hj
      rw [List.append_assoc, List.getElem?_append_right (by omega), List.getElem?_append_right (by omega)]
      rw [show j + (L.drop k).length - (ix.filterMap fun i => L[i]?).length - (L.drop k).length = j - (ix.filterMap fun i => L[i]?).length by omega]
      exact hj
  · intro i j _ _ e
    split at e <;> split at e <;> omega
/-- the yield of loop l does what φ says to the state -/
def YieldOk {α σ : Type} (P : Program) (l : Nat) (G : σ → List Chunk) (en : α → List Value) (φ : α → σ → Option (Bool × σ)) : Prop :=
  ∀ x σ₁ b σ₂, φ x σ₁ = some (b, σ₂) → ∀ Z w, Sp Z (G σ₁) w → ∃ fn tmps assign body, (Instr.yield l (en x).toArray).run P w = .ok (.round l fn tmps assign body) w ∧ RoundIn Fence.wide 0 P l fn tmps assign body w fun e w' => e = .returned (.bool b) ∧ Sp Z (G σ₂) w'
theorem op_yield {α σ : Type} {l : Nat} {G : σ → List Chunk} {E Z : List Chunk} {en : α → List Value} {φ : α → σ → Option (Bool × σ)} {a : α} {σ₁ : σ} {y : Bool × σ} {x : Operand} {xs : List Operand} {ats : Array TypeId} (hY : YieldOk P l G en φ) (hr : φ a σ₁ = some y) (hx : evE s x = some (.func (.yield l) #[] #[])) (hv : evs s xs = some (en a)) : OpX P s (E ++ (G σ₁ ++ Z)) ⟨d, .call ⟨.value x, xs.toArray, ats⟩, ty, pos, af, gd⟩ fun u L' => u = .bool y.1 ∧ L' = E ++ (G y.2 ++ Z) := fun ρ hρ Z2 w hw => by
  obtain ⟨b, σ₂⟩ := y
  have h1 : Sp ((E ++ Z) ++ Z2) (G σ₁) w := by have := cv_mid E (G σ₁) Z _ _ hw; unfold Sp at *; simpa only [List.append_assoc] using this
  obtain ⟨fn, tmps, assign, body, h2, h3⟩ := hY a σ₁ b σ₂ hr _ w h1
  refine .inr (.inr (.inr ⟨l, fn, tmps, assign, body, ?_, ?_⟩))
  · unfold execOp
    simp only [resolve, hρ x _ hx, Deferred.ofValue, List.map_toArray, evs_map hρ hv]
    simp only [invoke, Sem.run_bind, Sem.run_pure, Result.andThen_ok]
    simpa using h2
  · refine h3.mono ?_
    rintro e w' ⟨rfl, h4⟩
    refine ⟨_, _, rfl, ?_, rfl, rfl⟩
    have h5 : Sp Z2 (G σ₂ ++ (E ++ Z)) w' := by unfold Sp at *; simpa only [List.append_assoc] using h4
    exact cv_mid (G σ₂) E Z _ _ h5
end
section
variable {P : Program} {s : Env} {d : Option Nat} {ty : TypeId} {pos : String} {af : Array Edge} {gd : Option (Nat × Bool)}
theorem op_callf {α β : Type} {v : Value} {G : List Chunk} (E : List Chunk) {en : α → List Value} {ev : β → Value} {φ : α → Option β} {a : α} {r : β} {x : Operand} {xs : List Operand} {ats : Array TypeId} (hφ : FnOk P v G en ev φ) (hr : φ a = some r) (hx : evE s x = some v) (hv : evs s xs = some (en a)) : OpX P s (E ++ G) ⟨d, .call ⟨.value x, xs.toArray, ats⟩, ty, pos, af, gd⟩ fun u L' => u = ev r ∧ L' = E ++ G := fun ρ hρ Z w hw => by
  obtain ⟨hG, f, bs, caps, rfl, hf, hok⟩ := hφ
  refine .inr (.inr (.inl ⟨f, _, run_callv hf (evs_map hρ hv) (hρ _ _ hx), ?_⟩))
  refine (okc_lend (hok a r hr) (lent_tail hG) (by rintro _ _ ⟨-, rfl⟩; exact mem_nil) Z w hw).mono ?_
  rintro e w' ⟨u, post, rfl, h2, rfl, rfl⟩
  exact ⟨_, _, rfl, h2, rfl, rfl⟩
theorem op_yieldE {α σ : Type} {l : Nat} {G : σ → List Chunk} (E : List Chunk) {en : α → List Value} {φ : α → σ → Option (Bool × σ)} {a : α} {σ₁ : σ} {y : Bool × σ} {x : Operand} {xs : List Operand} {ats : Array TypeId} (hY : YieldOk P l G en φ) (hr : φ a σ₁ = some y) (hx : evE s x = some (.func (.yield l) #[] #[])) (hv : evs s xs = some (en a)) : OpX P s (E ++ G σ₁) ⟨d, .call ⟨.value x, xs.toArray, ats⟩, ty, pos, af, gd⟩ fun u L' => u = .bool y.1 ∧ L' = E ++ G y.2 := by
  have h := op_yield (d := d) (ty := ty) (pos := pos) (af := af) (gd := gd) (E := E) (Z := []) (ats := ats) hY hr hx hv
  simpa using h
theorem ev_makeFunc {C : World → Prop} {f : FuncId} {caps : List Operand} {vs : List Value} (hv : evs s caps = some vs) : Ev P s C ⟨d, .makeFunc (.func f) #[] caps.toArray, ty, pos, af, gd⟩ (.func (.func f) #[] vs.toArray) := fun ρ hρ w _ => by
  unfold execOp
  simp [evs_map hρ hv, Instr.makeFunc]
theorem ev_makeFuncB {C : World → Prop} {f : FuncId} {bds caps : List Operand} {us vs : List Value} (hb : evs s bds = some us) (hv : evs s caps = some vs) : Ev P s C ⟨d, .makeFunc (.func f) bds.toArray caps.toArray, ty, pos, af, gd⟩ (.func (.func f) us.toArray vs.toArray) := fun ρ hρ w _ => by
  unfold execOp
  simp [evs_map hρ hb, evs_map hρ hv, Instr.makeFunc]
end
theorem cv_frzbox {L : List Chunk} {b : Nat} {t : TypeId} {cs : List Value} (i : Nat) (hi : L[i]? = some (boxC b t cs)) : Cv L (L.set i (rboxC b t cs)) := fun Z w h => by
  have h1 := SepL.frz h (fr_get hi) (d := rboxC b t cs) fun T S ⟨h1, h2⟩ => ⟨.inr h1, h2⟩
  rw [fr_set Z hi] at h1
  exact h1
/-- the record of a loop over a function -/
def recC (l : Nat) (r : Loop) : Chunk where
  ok T _ w := T l ∧ w.heap[l]? = some (.loop r)
  loc := fun {T S w w'} h ⟨h1, h2⟩ => ⟨h1, (h.block l (by rcases Nat.lt_or_ge l w.heap.size with hl | hl; exact hl; rw [Array.getElem?_eq_none hl] at h2; cases h2) (.inl h1)).trans h2⟩
  mono := fun _ h => h
  ro := false
  dup := fun h => Bool.noConfusion h
theorem rec_put {l : Nat} {r r' : Loop} {L : List Chunk} {w : World} {i : Nat} (h : SepL L w) (hi : L[i]? = some (recC l r)) : SepL (L.set i (recC l r')) (w.putObj l (.loop r')) := by
  obtain ⟨T, S, hT, hk⟩ := h.get hi
  have hlt : l < w.heap.size := (Array.getElem?_eq_some_iff.1 hk).1
  refine h.upd hi fun T S h2 h3 _ _ => ?_
  have hx := grownBy_putObj' w l (.loop r')
  exact ⟨⟨hx.os, hx.tape, hx.output, hx.size, fun q hq hn => hx.block q hq fun e => hn (by cases e; exact h2.1)⟩, T, fun _ => .inl, fun q hq => Nat.lt_of_lt_of_le (h3 q hq) hx.size, h2.1, World.putObj_heap_same hlt⟩
def codeOf : Exit → Option Code
  | .ret => some .ret
  | .exit i => some (.exit i)
  | _ => none
/-- a round's body is left by je (none: off its end) -/
def RK (je : Option Exit) (L' : List Chunk) : K3 := fun e _ L => ((je = none ∧ e = .normal) ∨ (je = some e ∧ (codeOf e).isSome = true)) ∧ Cv L L'
def liftR {α σ : Type} (φ : α → σ → Option (Option Exit × σ)) : α → (Option Exit × σ) → Option (Bool × (Option Exit × σ)) := fun x s => match s.1 with
  | none => (φ x s.2).map fun r => (r.1.isNone, r)
  | some _ => none
def envR (ps : List Nat) (vs : List Value) (s : Env) : Env := (ps.zip vs).reverse ++ s
theorem fx_fold {X : Cx} {ds : List Deferred} : ∀ (l : List (Nat × Value)) (s : Env) (t : Array Value), l.all (fun p => Nat.ble (p.1 + 1) X.n) = true → Fx X s ⟨t, ds⟩ → Fx X (l.reverse ++ s) ⟨l.foldl (fun t (p : Nat × Value) => t.setIfInBounds p.1 p.2) t, ds⟩
  | [], s, t, _, h => h
  | p :: l, s, t, hl, h => by
    simp only [List.all_cons, Bool.and_eq_true] at hl
    have h1 := h.put p.2 (d := p.1) (Nat.le_of_ble_eq_true hl.1)
    have h2 : Fx X ((p.1, p.2) :: s) ⟨t.setIfInBounds p.1 p.2, ds⟩ := ⟨h1.size, h1.at_⟩
    have h3 := fx_fold l _ _ hl.2 h2
    simpa using h3
theorem perm_ix {L L' : List Chunk} (h : L.Perm L') : ∃ f : Nat → Nat, (∀ (j : Nat) (c : Chunk), L'[j]? = some c → L[f j]? = some c) ∧ ∀ i j, i < L'.length → j < L'.length → f i = f j → i = j := by
  induction h with
  | nil => exact ⟨id, fun _ _ h => h, fun _ _ _ _ h => h⟩
  | cons c h ih =>
    obtain ⟨f, h1, h2⟩ := ih
    refine ⟨fun j => match j with | 0 => 0 | j + 1 => f j + 1, ?_, ?_⟩
    · intro j d hj
      cases j with
      | zero => simpa using hj
      | succ j => simp only [List.getElem?_cons_succ] at hj ⊢; exact h1 j d hj
    · intro i j hi hj e
      cases i with
      | zero => cases j with
        | zero => rfl
        | succ j => simp at e
      | succ i => cases j with
        | zero => simp at e
        | succ j => simp only [List.length_cons] at hi hj; simp only [Nat.add_right_cancel_iff] at e; rw [h2 i j (by omega) (by omega) e]
  | swap a b l =>
    refine ⟨fun j => match j with | 0 => 1 | 1 => 0 | j + 2 => j + 2, ?_, ?_⟩
    · intro j d hj
      match j with
      | 0 => simpa using hj
      | 1 => simpa using hj
      | j + 2 => simpa using hj
    · intro i j _ _ e
      match i, j with
      | 0, 0 => rfl
      | 0, 1 => simp at e
      | 0, j + 2 => simp at e
      | 1, 0 => simp at e
      | 1, 1 => rfl
      | 1, j + 2 => simp at e
      | i + 2, 0 => simp at e
      | i + 2, 1 => simp at e
      | i + 2, j + 2 => simp at e; omega
  | trans h1 h2 ih1 ih2 =>
    obtain ⟨f, f1, f2⟩ := ih1
    obtain ⟨g, g1, g2⟩ := ih2
    refine ⟨fun j => f (g j), fun j c hj => f1 _ _ (g1 j c hj), fun i j hi hj e => ?_⟩
    have hb : ∀ k, k < _ → g k < _ := fun k hk => (List.getElem?_eq_some_iff.1 (g1 k _ (List.getElem?_eq_getElem hk))).1
    exact g2 i j hi hj (f2 _ _ (hb i hi) (hb j hj) e)
theorem SepL.perm {L L' : List Chunk} {w : World} (h : SepL L w) (hp : L.Perm L') : SepL L' w := by
  obtain ⟨f, h1, h2⟩ := perm_ix hp
  exact h.pick f h1 h2
theorem SepL.dropL {A B : List Chunk} {w : World} (h : SepL (A ++ B) w) : SepL B w := h.pick (fun j => j + A.length) (fun j c hj => by rw [List.getElem?_append_right (by omega), Nat.add_sub_cancel]; exact hj) (fun i j _ _ e => by omega)
theorem rec_mid {A Z : List Chunk} {l : Nat} {r r' : Loop} {w : World} (h : SepL (A ++ (recC l r :: Z)) w) : SepL (A ++ (recC l r' :: Z)) (w.putObj l (.loop r')) := by
  have h1 := rec_put (l := l) (r := r) (r' := r') (i := A.length) h (by simp)
  simpa using h1
theorem rec_get {A Z : List Chunk} {l : Nat} {r : Loop} {w : World} (h : SepL (A ++ (recC l r :: Z)) w) : w.heap[l]? = some (.loop r) := by
  obtain ⟨T, S, -, hk⟩ := h.get (i := A.length) (c := recC l r) (by simp)
  exact hk
/-- a loop over a function; the body may leave it -/
theorem G_range {α σ : Type} {X : Cx} {K : K3} {s : Env} {g : Operand} {ps : List Nat} {assign body : Code} {gf : FuncId} {caps : Array Value} {en : α → List Value} (φ : α → σ → Option (Option Exit × σ)) (E : σ → List Chunk) (pre : List Chunk) (σ₀ : σ) {je : Option Exit} {σr : σ} {L : List Chunk}
    (hr : X.r = none) (hg : evE s g = some (.func (.func gf) #[] caps)) (hf : Callable X.P gf) (hps : ps.all (fun p => Nat.ble (p + 1) X.n) = true) (hen : ∀ x, (en x).length = ps.length)
    (hit : ∀ l (G : (Option Exit × σ) → List Chunk), YieldOk X.P l G en (liftR φ) → Okc X.P gf (.func (.yield l) #[] #[] :: caps.toList) (pre ++ G (none, σ₀)) fun _ post => post = G (je, σr))
    (hL : Cv L (pre ++ E σ₀))
    (hbody : ∀ l x σ₁ je' σ₂, φ x σ₁ = some (je', σ₂) → Wq ⟨X.P, X.n, some l⟩ assign (nx (fun s1 L1 => Wq ⟨X.P, X.n, some l⟩ body (RK je' (E σ₂)) s1 L1) fun _ _ _ => False) (envR ps (en x) s) (E σ₁))
    (hdone : je = none → K .normal s (E σr)) (hleft : ∀ e, je = some e → (codeOf e).isSome = true ∧ K e s (E σr)) :
    Wq X (.rangeFunc g ps.toArray assign body) K s L := by
  intro H Ds a w ha hds hw
  obtain ⟨P, n, r⟩ := X
  simp only at hr hf hps hit hbody
  subst hr
  refine wpIn_rangeFunc ?_
  intro fn hfn
  have hev : a.eval g = .func (.func gf) #[] caps := ha.eval hg
  obtain ⟨rec_, hrec⟩ : ∃ rec_ : Option Exit → LoopState → Loop, rec_ = fun j st => { state := st, pending := j.bind codeOf, fn, tmps := a.tmps, params := ps.toArray, assign, body, defers := w.heap.size } := ⟨_, rfl⟩
  obtain ⟨stOf, hst⟩ : ∃ stOf : Option Exit → LoopState, stOf = fun j => if j.isNone then .ready else .done := ⟨_, rfl⟩
  obtain ⟨l, hl⟩ : ∃ l, l = w.heap.size + 1 := ⟨_, rfl⟩
  obtain ⟨W1, hW1⟩ : ∃ W1, (w.alloc (.deferred (some []))).alloc (.loop (rec_ none .ready)) = W1 := ⟨_, rfl⟩
  have hY : YieldOk P l (fun q => recC l (rec_ q.1 (stOf q.1)) :: E q.2) en (liftR φ) := by
    rintro x ⟨j₁, σ₁⟩ b ⟨j₂, σ₂⟩ hx Z w1 hw1
    unfold liftR at hx
    cases j₁ with
    | some e => cases hx
    | none =>
      simp only at hx
      cases hφ : φ x σ₁ with
      | none => rw [hφ] at hx; cases hx
      | some y =>
        rw [hφ] at hx
        simp only [Option.map_some, Option.some.injEq, Prod.mk.injEq] at hx
        obtain ⟨hb, hy⟩ := hx
        subst hb hy
        have h0 : SepL ([] ++ (recC l (rec_ none .ready) :: (E σ₁ ++ Z))) w1 := by
          have : stOf none = .ready := by rw [hst]; rfl
          simp only [this] at hw1
          exact hw1
        have hk1 := rec_get h0
        have hy := run_yield (P := P) (args := (en x).toArray) hk1 (by rw [hrec]; simp [hen x])
        refine ⟨_, _, _, _, hy, roundIn_of_wpIn (F := Fence.wide) trivial ?_⟩
        have hfx : Fx ⟨P, n, some l⟩ (envR ps (en x) s) ⟨((rec_ none .ready).params.zip (en x).toArray).foldl (fun t (p : Nat × Value) => t.setIfInBounds p.1 p.2) (rec_ none .ready).tmps, []⟩ := by
          have h1 := fx_fold (X := ⟨P, n, some l⟩) (ds := []) (ps.zip (en x)) s a.tmps (by
            rw [List.all_eq_true] at hps ⊢
            intro p hp
            exact hps p.1 (List.of_mem_zip hp).1) ⟨ha.size, ha.at_⟩
          have e : (((rec_ none .ready).params.zip (en x).toArray).foldl (fun t (p : Nat × Value) => t.setIfInBounds p.1 p.2) (rec_ none .ready).tmps) = (ps.zip (en x)).foldl (fun t (p : Nat × Value) => t.setIfInBounds p.1 p.2) a.tmps := by
            rw [hrec]; simp
          rw [e]
          exact h1
        have hsp : Sp (([] : List Nat).map markC ++ (recC l (rec_ none .ready) :: Z)) (E σ₁) w1 := h0.perm (by simpa using List.perm_middle.symm)
        have hrun := hbody l x σ₁ j₂ σ₂ hφ (recC l (rec_ none .ready) :: Z) [] _ w1 hfx rfl hsp
        have hasg : (rec_ none .ready).assign = assign := by rw [hrec]
        have hbdy : (rec_ none .ready).body = body := by rw [hrec]
        rw [hasg, hbdy]
        refine wpIn_mono hrun ?_
        rintro e a1 w2 ⟨s1, L1, Ds1, g1, g2, g3, g4⟩
        cases e with
        | normal =>
          have g3' : SepL ((L1 ++ Ds1.map markC) ++ (recC l (rec_ none .ready) :: Z)) w2 := by unfold Sp at g3; simpa only [List.append_assoc] using g3
          have hk2 := rec_get g3'
          have hbusy := rec_mid (r' := { rec_ none .ready with state := .busy }) g3'
          refine ⟨_, run_beginRound hk2 (by rw [hrec]), ?_⟩
          have hb2 : Sp (Ds1.map markC ++ (recC l { rec_ none .ready with state := .busy } :: Z)) L1 (w2.putObj l (.loop { rec_ none .ready with state := .busy })) := by unfold Sp; simpa only [List.append_assoc] using hbusy
          refine wpIn_mono (g4 (recC l { rec_ none .ready with state := .busy } :: Z) Ds1 a1 _ g1 g2 hb2) ?_
          rintro e3 a3 w3 ⟨s3, L3, Ds3, k1, k2, k3, k4, k5⟩
          have k3' : SepL ((L3 ++ Ds3.map markC) ++ (recC l { rec_ none .ready with state := .busy } :: Z)) w3 := by unfold Sp at k3; simpa only [List.append_assoc] using k3
          have hk3 := rec_get k3'
          have fin : ∀ (j : Option Exit) (jump : Option Code), jump = j.bind codeOf → jump.isNone = j.isNone → j₂ = j → ∃ v w', (Instr.endRound l jump).run P w3 = .ok v w' ∧ (Ending.returned v = .returned (.bool j₂.isNone) ∧ Sp Z (recC l (rec_ j₂ (stOf j₂)) :: E σ₂) w') := by
            intro j jump hj1 hj2 hj3
            subst hj3
            refine ⟨_, _, run_endRound jump hk3, by rw [hj2], ?_⟩
            have e : ({ { rec_ none .ready with state := .busy } with state := if jump.isNone then LoopState.ready else LoopState.done, pending := jump } : Loop) = rec_ j₂ (stOf j₂) := by
              rw [hrec, hst, hj2, hj1]
            rw [e]
            have h6 := rec_mid (r' := rec_ j₂ (stOf j₂)) k3'
            have h7 : SepL (L3 ++ (recC l (rec_ j₂ (stOf j₂)) :: Z)) (w3.putObj l (.loop (rec_ j₂ (stOf j₂)))) := by
              have h8 : SepL (Ds3.map markC ++ (L3 ++ (recC l (rec_ j₂ (stOf j₂)) :: Z))) (w3.putObj l (.loop (rec_ j₂ (stOf j₂)))) := h6.perm (by
                rw [← List.append_assoc]
                exact List.Perm.append_right _ List.perm_append_comm)
              exact h8.dropL
            have h9 := k5 (recC l (rec_ j₂ (stOf j₂)) :: Z) _ h7
            unfold Sp at h9 ⊢
            exact h9.perm List.perm_middle
          rcases k4 with ⟨h10, rfl⟩ | ⟨h10, h11⟩
          · exact fin none none rfl rfl h10
          · cases e3 with
            | ret => exact fin (some .ret) (some .ret) rfl rfl h10
            | exit i => exact fin (some (.exit i)) (some (.exit i)) rfl rfl h10
            | _ => cases h11
        | _ => exact g4.elim
  have hdeep : SepL (recC l (rec_ none .ready) :: markC w.heap.size :: ((pre ++ E σ₀) ++ (Ds.map markC ++ H))) W1 := by
    have h1 : SepL ((pre ++ E σ₀) ++ (Ds.map markC ++ H)) w := hL _ _ hw
    have h2 : SepL (markC w.heap.size :: ((pre ++ E σ₀) ++ (Ds.map markC ++ H))) (w.alloc (.deferred (some []))) := h1.new (Agr.of_ext ((Ext.refl w).alloc _)) fun _ S _ => ⟨(· = w.heap.size), fun q hq => by subst hq; simp, rfl, World.alloc_heap_new w _⟩
    rw [← hW1]
    refine h2.new (Agr.of_ext ((Ext.refl _).alloc _)) fun _ S _ => ⟨(· = l), fun q hq => by subst hq; rw [hl]; simp, rfl, ?_⟩
    have := World.alloc_heap_new (w.alloc (.deferred (some []))) (.loop (rec_ none .ready))
    rw [World.size_alloc] at this
    rw [hl]
    exact this
  have hstn : stOf none = .ready := by rw [hst]; rfl
  have hstart : Sp (markC w.heap.size :: (Ds.map markC ++ H)) (pre ++ (recC l (rec_ none (stOf none)) :: E σ₀)) W1 := by
    rw [hstn]
    refine hdeep.perm ?_
    refine (List.Perm.swap _ _ _).trans ?_
    refine List.Perm.trans ?_ List.perm_middle.symm
    refine List.Perm.cons _ ?_
    rw [← List.cons_append]
    exact List.Perm.append_right _ List.perm_middle.symm
  obtain ⟨fnc, hfn1, hb1, hn1⟩ := hf
  have hn' : ¬ fnc.name = "runtime.NumGoroutine" := by simpa using hn1
  have hb' : ¬ fnc.body = none := by intro h; rw [h] at hb1; cases hb1
  refine ⟨l, [{ target := .collected w.heap.size, args := #[] }], W1, { target := .fn (.func gf) caps, args := #[.func (.yield l) #[] #[]] }, W1, gf, (.func (.yield l) #[] #[] :: caps.toList).toArray, W1, ?_, ?_, fun _ _ => trivial, ?_, (by intro h; cases h), ?_⟩
  · rw [← hW1, hl, hrec]; exact run_enterLoop_outer _ _ _ _ _
  · simp only [resolve, hev]
    simp [Deferred.ofValue, Act.eval]
  · simp [invoke, callFunc, hfn1, hb', hn', Sem.run_bind]
  · have h1 := hit l _ hY _ W1 hstart
    refine (callsIn_wide.2 h1 : CallsIn Fence.wide (0 - 1) P gf _ W1 _).mono ?_
    rintro e w3 ⟨v, post, rfl, h2, rfl⟩
    have h2' : SepL ([] ++ (recC l (rec_ je (stOf je)) :: (E σr ++ (markC w.heap.size :: (Ds.map markC ++ H))))) w3 := h2
    have hk := rec_get h2'
    refine ⟨_, _, run_endLoop hk (by rw [hrec, hst]; cases je <;> simp), ?_⟩
    have h3 := rec_mid (r' := { rec_ je (stOf je) with state := .exhausted }) h2'
    generalize w3.putObj l (.loop { rec_ je (stOf je) with state := .exhausted }) = w4 at h3 ⊢
    have h4 : Sp ((w.heap.size :: Ds).map markC ++ H) (E σr) w4 := by
      have h5 : SepL ([recC l { rec_ je (stOf je) with state := .exhausted }] ++ (E σr ++ (markC w.heap.size :: (Ds.map markC ++ H)))) _ := h3
      have h6 := h5.dropL
      unfold Sp
      simpa using h6
    have hfin : ∀ e, K e s (E σr) → Fin3 ⟨P, n, none⟩ H K e { a with defers := [{ target := .collected w.heap.size, args := #[] }] ++ a.defers } w4 := fun e he => ⟨s, E σr, w.heap.size :: Ds, ⟨ha.size, ha.at_⟩, by simp [hds, collD], h4, he⟩
    cases hje : je with
    | none =>
      have : (rec_ je (stOf je)).pending = none := by rw [hrec, hje]; rfl
      rw [← hje, this]
      exact hfin .normal (hdone hje)
    | some e =>
      obtain ⟨h7, h8⟩ := hleft e hje
      have : (rec_ je (stOf je)).pending = codeOf e := by rw [hrec, hje]; rfl
      rw [← hje, this]
      cases e with
      | ret => exact wpIn_ret (hfin .ret h8)
      | exit i => exact wpIn_exit (hfin (.exit i) h8)
      | _ => cases h7
end Go.Proofs.Ytmbaennilhdieaa
