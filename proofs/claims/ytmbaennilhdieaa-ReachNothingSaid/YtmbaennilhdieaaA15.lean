/- Loops over functions that yield values with memory of their own (slices): what is yielded is a relation, and the chunks come along. Over any program. -/
import Derived.Test.YtmbaennilhdieaaA13
namespace Go.Proofs.Ytmbaennilhdieaa
open Go.RowKit

def YieldOkR {α σ : Type} (P : Program) (l : Nat) (G : σ → List Chunk) (Q : α → List Value → List Chunk → Prop) (φ : α → σ → Option (Bool × σ)) : Prop :=
  ∀ x σ₁ b σ₂, φ x σ₁ = some (b, σ₂) → ∀ vs cs, Q x vs cs → ∀ Z w, Sp Z (cs ++ G σ₁) w → ∃ fn tmps assign body, (Instr.yield l vs.toArray).run P w = .ok (.round l fn tmps assign body) w ∧ RoundIn Fence.wide 0 P l fn tmps assign body w fun e w' => e = .returned (.bool b) ∧ Sp Z (G σ₂) w'
section
variable {P : Program} {s : Env} {d : Option Nat} {ty : TypeId} {pos : String} {af : Array Edge} {gd : Option (Nat × Bool)}
theorem op_yieldR {α σ : Type} {l : Nat} {G : σ → List Chunk} (E : List Chunk) {Q : α → List Value → List Chunk → Prop} {φ : α → σ → Option (Bool × σ)} {a : α} {σ₁ : σ} {y : Bool × σ} {x : Operand} {xs : List Operand} {ats : Array TypeId} {vs : List Value} {cs : List Chunk} (hY : YieldOkR P l G Q φ) (hr : φ a σ₁ = some y) (hx : evE s x = some (.func (.yield l) #[] #[])) (hv : evs s xs = some vs) (hq : Q a vs cs) (hd : Cv (E ++ G σ₁) (cs ++ (E ++ G σ₁))) : OpX P s (E ++ G σ₁) ⟨d, .call ⟨.value x, xs.toArray, ats⟩, ty, pos, af, gd⟩ fun u L' => u = .bool y.1 ∧ L' = E ++ G y.2 := fun ρ hρ Z2 w hw => by
  obtain ⟨b, σ₂⟩ := y
  have h0 := hd Z2 w hw
  have h1 : Sp (E ++ Z2) (cs ++ G σ₁) w := by
    have h2 : SepL ((cs ++ (E ++ G σ₁)) ++ Z2) w := h0
    refine SepL.perm h2 ?_
    simp only [List.append_assoc]
    exact List.Perm.append_left cs (List.perm_append_comm_assoc _ _ _)
  obtain ⟨fn, tmps, assign, body, h2, h3⟩ := hY a σ₁ b σ₂ hr vs cs hq _ w h1
  refine .inr (.inr (.inr ⟨l, fn, tmps, assign, body, ?_, ?_⟩))
  · unfold execOp
    simp only [resolve, hρ x _ hx, Deferred.ofValue, List.map_toArray, evs_map hρ hv]
    simp only [invoke, Sem.run_bind, Sem.run_pure, Result.andThen_ok]
    simpa using h2
  · refine h3.mono ?_
    rintro e w' ⟨rfl, h4⟩
    refine ⟨_, _, rfl, ?_, rfl, rfl⟩
    have h5 : SepL (G σ₂ ++ (E ++ Z2)) w' := h4
    refine SepL.perm h5 ?_
    simp only [List.append_assoc]
    exact List.perm_append_comm_assoc _ _ _
end
theorem G_unpackR {ι : Type} {Q : ι → List Chunk} {X : Cx} {K : K3} {s : Env} {c : Code} (cs : List Chunk) (h : ∀ x, Wq X c K s (cs ++ Q x)) : Wq X c K s (cs ++ [packC Q]) := fun H Ds a w ha hd hw => by
  have h1 : Sp (cs ++ (Ds.map markC ++ H)) [packC Q] w := by
    refine SepL.perm hw ?_
    simp only [List.append_assoc]
    exact List.perm_append_comm_assoc _ _ _
  obtain ⟨x, hx⟩ := unpack h1
  have h2 : Sp (Ds.map markC ++ H) (cs ++ Q x) w := by
    refine SepL.perm hx ?_
    simp only [List.append_assoc, List.nil_append]
    exact List.perm_append_comm_assoc _ _ _
  exact h x H Ds a w ha hd h2
/-- a loop over a function; the body may leave it -/
theorem G_rangeR0 {α σ : Type} {X : Cx} {K : K3} {s : Env} {g : Operand} {ps : List Nat} {assign body : Code} {gf : FuncId} {caps : Array Value} {Q : α → List Value → List Chunk → Prop} (φ : α → σ → Option (Option Exit × σ)) (E : σ → List Chunk) (pre : List Chunk) (σ₀ : σ) {je : Option Exit} {σr : σ} {L : List Chunk}
    (hr : X.r = none) (hg : evE s g = some (.func (.func gf) #[] caps)) (hf : Callable X.P gf) (hps : ps.all (fun p => Nat.ble (p + 1) X.n) = true) (hen : ∀ x vs cs, Q x vs cs → vs.length = ps.length)
    (hit : ∀ l (G : (Option Exit × σ) → List Chunk), YieldOkR X.P l G Q (liftR φ) → Okc X.P gf (.func (.yield l) #[] #[] :: caps.toList) (pre ++ G (none, σ₀)) fun _ post => post = G (je, σr))
    (hL : Cv L (pre ++ E σ₀))
    (hbody : ∀ l x σ₁ je' σ₂, φ x σ₁ = some (je', σ₂) → ∀ vs cs, Q x vs cs → Wq ⟨X.P, X.n, some l⟩ assign (nx (fun s1 L1 => Wq ⟨X.P, X.n, some l⟩ body (RK je' (E σ₂)) s1 L1) fun _ _ _ => False) (envR ps vs s) (cs ++ E σ₁))
    (hdone : je = none → K .normal s (E σr)) (hleft : ∀ e, je = some e → (codeOf e).isSome = true ∧ K e s (E σr)) :
    Wq X (.rangeFunc g ps.toArray assign body) K s L := by
  intro H Ds a w ha hds hw
  obtain ⟨P, n, r⟩ := X
  simp only at hr hf hps hit hbody
  subst hr
  refine wpIn_rangeFunc ?_
  intro fn hfn
  have hev : a.eval g = .func (.func gf) #[] caps := ha.eval hg
  obtain ⟨rec_, hrec⟩ : ∃ rec_ : Option Exit → LoopState → Loop, rec_ = fun j st => { state := st, pending := j.bind codeOf, fn, tmps := a.tmps, params := ps.toArray, assign, body, defers := w.heap.size } := ⟨_, rfl⟩
  obtain ⟨stOf, hst⟩ : ∃ stOf : Option Exit → LoopState, stOf = fun j => if j.isNone then .ready else .done := ⟨_, rfl⟩
  obtain ⟨l, hl⟩ : ∃ l, l = w.heap.size + 1 := ⟨_, rfl⟩
  obtain ⟨W1, hW1⟩ : ∃ W1, (w.alloc (.deferred (some []))).alloc (.loop (rec_ none .ready)) = W1 := ⟨_, rfl⟩
  have hY : YieldOkR P l (fun q => recC l (rec_ q.1 (stOf q.1)) :: E q.2) Q (liftR φ) := by
    rintro x ⟨j₁, σ₁⟩ b ⟨j₂, σ₂⟩ hx vs cs hq Z w1 hw1
    unfold liftR at hx
    cases j₁ with
    | some e => cases hx
    | none =>
      simp only at hx
      cases hφ : φ x σ₁ with
      | none => rw [hφ] at hx; cases hx
      | some y =>
        rw [hφ] at hx
        simp only [Option.map_some, Option.some.injEq, Prod.mk.injEq] at hx
        obtain ⟨hb, hy⟩ := hx
        subst hb hy
        have h0 : SepL (cs ++ (recC l (rec_ none .ready) :: (E σ₁ ++ Z))) w1 := by
          have : stOf none = .ready := by rw [hst]; rfl
          simp only [this] at hw1
          unfold Sp at hw1; simpa only [List.append_assoc, List.cons_append] using hw1
        have hk1 := rec_get h0
        have hy := run_yield (P := P) (args := vs.toArray) hk1 (by rw [hrec]; simp [hen x vs cs hq])
        refine ⟨_, _, _, _, hy, roundIn_of_wpIn (F := Fence.wide) trivial ?_⟩
        have hfx : Fx ⟨P, n, some l⟩ (envR ps vs s) ⟨((rec_ none .ready).params.zip vs.toArray).foldl (fun t (p : Nat × Value) => t.setIfInBounds p.1 p.2) (rec_ none .ready).tmps, []⟩ := by
          have h1 := fx_fold (X := ⟨P, n, some l⟩) (ds := []) (ps.zip vs) s a.tmps (by
            rw [List.all_eq_true] at hps ⊢
            intro p hp
            exact hps p.1 (List.of_mem_zip hp).1) ⟨ha.size, ha.at_⟩
          have e : (((rec_ none .ready).params.zip vs.toArray).foldl (fun t (p : Nat × Value) => t.setIfInBounds p.1 p.2) (rec_ none .ready).tmps) = (ps.zip vs).foldl (fun t (p : Nat × Value) => t.setIfInBounds p.1 p.2) a.tmps := by
            rw [hrec]; simp
          rw [e]
          exact h1
        have hsp : Sp (([] : List Nat).map markC ++ (recC l (rec_ none .ready) :: Z)) (cs ++ E σ₁) w1 := h0.perm (by simpa only [List.append_assoc, List.map_nil, List.nil_append] using List.Perm.append_left cs List.perm_middle.symm)
        have hrun := hbody l x σ₁ j₂ σ₂ hφ vs cs hq (recC l (rec_ none .ready) :: Z) [] _ w1 hfx rfl hsp
        have hasg : (rec_ none .ready).assign = assign := by rw [hrec]
        have hbdy : (rec_ none .ready).body = body := by rw [hrec]
        rw [hasg, hbdy]
        refine wpIn_mono hrun ?_
        rintro e a1 w2 ⟨s1, L1, Ds1, g1, g2, g3, g4⟩
        cases e with
        | normal =>
          have g3' : SepL ((L1 ++ Ds1.map markC) ++ (recC l (rec_ none .ready) :: Z)) w2 := by unfold Sp at g3; simpa only [List.append_assoc] using g3
          have hk2 := rec_get g3'
          have hbusy := rec_mid (r' := { rec_ none .ready with state := .busy }) g3'
          refine ⟨_, run_beginRound hk2 (by rw [hrec]), ?_⟩
          have hb2 : Sp (Ds1.map markC ++ (recC l { rec_ none .ready with state := .busy } :: Z)) L1 (w2.putObj l (.loop { rec_ none .ready with state := .busy })) := by unfold Sp; simpa only [List.append_assoc] using hbusy
          refine wpIn_mono (g4 (recC l { rec_ none .ready with state := .busy } :: Z) Ds1 a1 _ g1 g2 hb2) ?_
          rintro e3 a3 w3 ⟨s3, L3, Ds3, k1, k2, k3, k4, k5⟩
          have k3' : SepL ((L3 ++ Ds3.map markC) ++ (recC l { rec_ none .ready with state := .busy } :: Z)) w3 := by unfold Sp at k3; simpa only [List.append_assoc] using k3
          have hk3 := rec_get k3'
          have fin : ∀ (j : Option Exit) (jump : Option Code), jump = j.bind codeOf → jump.isNone = j.isNone → j₂ = j → ∃ v w', (Instr.endRound l jump).run P w3 = .ok v w' ∧ (Ending.returned v = .returned (.bool j₂.isNone) ∧ Sp Z (recC l (rec_ j₂ (stOf j₂)) :: E σ₂) w') := by
            intro j jump hj1 hj2 hj3
            subst hj3
            refine ⟨_, _, run_endRound jump hk3, by rw [hj2], ?_⟩
            have e : ({ { rec_ none .ready with state := .busy } with state := if jump.isNone then LoopState.ready else LoopState.done, pending := jump } : Loop) = rec_ j₂ (stOf j₂) := by
              rw [hrec, hst, hj2, hj1]
            rw [e]
            have h6 := rec_mid (r' := rec_ j₂ (stOf j₂)) k3'
            have h7 : SepL (L3 ++ (recC l (rec_ j₂ (stOf j₂)) :: Z)) (w3.putObj l (.loop (rec_ j₂ (stOf j₂)))) := by
              have h8 : SepL (Ds3.map markC ++ (L3 ++ (recC l (rec_ j₂ (stOf j₂)) :: Z))) (w3.putObj l (.loop (rec_ j₂ (stOf j₂)))) := h6.perm (by
                rw [← List.append_assoc]
                exact List.Perm.append_right _ List.perm_append_comm)
              exact h8.dropL
            have h9 := k5 (recC l (rec_ j₂ (stOf j₂)) :: Z) _ h7
            unfold Sp at h9 ⊢
            exact h9.perm List.perm_middle
          rcases k4 with ⟨h10, rfl⟩ | ⟨h10, h11⟩
          · exact fin none none rfl rfl h10
          · cases e3 with
            | ret => exact fin (some .ret) (some .ret) rfl rfl h10
            | exit i => exact fin (some (.exit i)) (some (.exit i)) rfl rfl h10
            | _ => cases h11
        | _ => exact g4.elim
  have hdeep : SepL (recC l (rec_ none .ready) :: markC w.heap.size :: ((pre ++ E σ₀) ++ (Ds.map markC ++ H))) W1 := by
    have h1 : SepL ((pre ++ E σ₀) ++ (Ds.map markC ++ H)) w := hL _ _ hw
    have h2 : SepL (markC w.heap.size :: ((pre ++ E σ₀) ++ (Ds.map markC ++ H))) (w.alloc (.deferred (some []))) := h1.new (Agr.of_ext ((Ext.refl w).alloc _)) fun _ S _ => ⟨(· = w.heap.size), fun q hq => by subst hq; simp, rfl, World.alloc_heap_new w _⟩
    rw [← hW1]
    refine h2.new (Agr.of_ext ((Ext.refl _).alloc _)) fun _ S _ => ⟨(· = l), fun q hq => by subst hq; rw [hl]; simp, rfl, ?_⟩
    have := World.alloc_heap_new (w.alloc (.deferred (some []))) (.loop (rec_ none .ready))
    rw [World.size_alloc] at this
    rw [hl]
    exact this
  have hstn : stOf none = .ready := by rw [hst]; rfl
  have hstart : Sp (markC w.heap.size :: (Ds.map markC ++ H)) (pre ++ (recC l (rec_ none (stOf none)) :: E σ₀)) W1 := by
    rw [hstn]
    refine hdeep.perm ?_
    refine (List.Perm.swap _ _ _).trans ?_
    refine List.Perm.trans ?_ List.perm_middle.symm
    refine List.Perm.cons _ ?_
    rw [← List.cons_append]
    exact List.Perm.append_right _ List.perm_middle.symm
  obtain ⟨fnc, hfn1, hb1, hn1⟩ := hf
  have hn' : ¬ fnc.name = "runtime.NumGoroutine" := by simpa using hn1
  have hb' : ¬ fnc.body = none := by intro h; rw [h] at hb1; cases hb1
  refine ⟨l, [{ target := .collected w.heap.size, args := #[] }], W1, { target := .fn (.func gf) caps, args := #[.func (.yield l) #[] #[]] }, W1, gf, (.func (.yield l) #[] #[] :: caps.toList).toArray, W1, ?_, ?_, fun _ _ => trivial, ?_, (by intro h; cases h), ?_⟩
  · rw [← hW1, hl, hrec]; exact run_enterLoop_outer _ _ _ _ _
  · simp only [resolve, hev]
    simp [Deferred.ofValue, Act.eval]
  · simp [invoke, callFunc, hfn1, hb', hn', Sem.run_bind]
  · have h1 := hit l _ hY _ W1 hstart
    refine (callsIn_wide.2 h1 : CallsIn Fence.wide (0 - 1) P gf _ W1 _).mono ?_
    rintro e w3 ⟨v, post, rfl, h2, rfl⟩
    have h2' : SepL ([] ++ (recC l (rec_ je (stOf je)) :: (E σr ++ (markC w.heap.size :: (Ds.map markC ++ H))))) w3 := h2
    have hk := rec_get h2'
    refine ⟨_, _, run_endLoop hk (by rw [hrec, hst]; cases je <;> simp), ?_⟩
    have h3 := rec_mid (r' := { rec_ je (stOf je) with state := .exhausted }) h2'
    generalize w3.putObj l (.loop { rec_ je (stOf je) with state := .exhausted }) = w4 at h3 ⊢
    have h4 : Sp ((w.heap.size :: Ds).map markC ++ H) (E σr) w4 := by
      have h5 : SepL ([recC l { rec_ je (stOf je) with state := .exhausted }] ++ (E σr ++ (markC w.heap.size :: (Ds.map markC ++ H)))) _ := h3
      have h6 := h5.dropL
      unfold Sp
      simpa using h6
    have hfin : ∀ e, K e s (E σr) → Fin3 ⟨P, n, none⟩ H K e { a with defers := [{ target := .collected w.heap.size, args := #[] }] ++ a.defers } w4 := fun e he => ⟨s, E σr, w.heap.size :: Ds, ⟨ha.size, ha.at_⟩, by simp [hds, collD], h4, he⟩
    cases hje : je with
    | none =>
      have : (rec_ je (stOf je)).pending = none := by rw [hrec, hje]; rfl
      rw [← hje, this]
      exact hfin .normal (hdone hje)
    | some e =>
      obtain ⟨h7, h8⟩ := hleft e hje
      have : (rec_ je (stOf je)).pending = codeOf e := by rw [hrec, hje]; rfl
      rw [← hje, this]
      cases e with
      | ret => exact wpIn_ret (hfin .ret h8)
      | exit i => exact wpIn_exit (hfin (.exit i) h8)
      | _ => cases h7
theorem G_rangeXR {α σ ι ρ : Type} {X : Cx} {K : K3} {s : Env} {g : Operand} {ps : List Nat} {assign body : Code} {gf : FuncId} {caps : Array Value} {R : α → List Value → List Chunk → Prop} (φ : α → σ → Option (Option Exit × σ)) (Q : σ → ι → List Chunk) (pre : List Chunk) (σ₀ : σ) (x₀ : ι) {je : Option Exit} {σr : σ} {L : List Chunk} {id : Nat} {vn vr : Option ρ} {vx : Nat → Option ρ} {v : ρ}
    (hr : X.r = none) (hg : evE s g = some (.func (.func gf) #[] caps)) (hf : Callable X.P gf) (hps : ps.all (fun p => Nat.ble (p + 1) X.n) = true) (hen : ∀ x vs cs, R x vs cs → vs.length = ps.length)
    (hit : ∀ l (G : (Option Exit × σ) → List Chunk), YieldOkR X.P l G R (liftR φ) → Okc X.P gf (.func (.yield l) #[] #[] :: caps.toList) (pre ++ G (none, σ₀)) fun _ post => post = G (je, σr))
    (hL : Cv L (pre ++ Q σ₀ x₀)) (h : caseX je vn vr vx = some v)
    (hbody : ∀ l x σ₁ je' σ₂ z, φ x σ₁ = some (je', σ₂) → ∀ vs cs, R x vs cs → Wq ⟨X.P, X.n, some l⟩ assign (nx (fun s1 L1 => Wq ⟨X.P, X.n, some l⟩ body (RK je' [packC (Q σ₂)]) s1 L1) fun _ _ _ => False) (envR ps vs s) (cs ++ Q σ₁ z))
    (hn : ∀ z, vn = some v → bk id K .normal s (Q σr z)) (hret : ∀ z, vr = some v → bk id K .ret s (Q σr z)) (hx : ∀ i z, vx i = some v → bk id K (.exit i) s (Q σr z)) :
    Wq X (.block id (.rangeFunc g ps.toArray assign body)) K s L := by
  refine G_block (G_pmono (K' := fun e s' L' => s' = s ∧ L' = [packC (Q σr)] ∧ ∀ z, bk id K e s (Q σr z)) ?_ ?_)
  · refine G_rangeR0 φ (fun q => [packC (Q q)]) pre σ₀ hr hg hf hps hen hit ?_ ?_ ?_ ?_
    · exact hL.trans (cv_app pre (cv_pack1 x₀ rfl))
    · intro l x σ₁ je' σ₂ hφ vs cs hq
      exact G_unpackR cs fun z => hbody l x σ₁ je' σ₂ z hφ vs cs hq
    · intro hj
      rw [hj] at h
      exact ⟨rfl, rfl, fun z => hn z h⟩
    · intro e he
      rw [he] at h
      cases e with
      | ret => exact ⟨rfl, rfl, rfl, fun z => hret z h⟩
      | exit i => exact ⟨rfl, rfl, rfl, fun z => hx i z h⟩
      | _ => cases h
  · rintro e s' L' ⟨rfl, rfl, h3⟩
    exact ⟨ι, Q σr, rfl, h3⟩
/-! x[l:h:h] -/
theorem SlR.recap {α : Type} {R : Rep α} {S : Nat → Prop} {w : World} {A1 A2 : Option Addr} {n1 n2 c1 c2 : Nat} {ys : List α} (h : SlR R S w (.slice A1 n1 c1) ys) (hn : n2 = ys.length) (hA : 0 < ys.length → A2 = A1) (h1 : ys.length ≤ c2) (h2 : c2 ≤ 9223372036854775807) : SlR R S w (.slice A2 n2 c2) ys := by
  obtain ⟨A, c, e, g1, g2, g3⟩ := h
  injection e with e1 e2 e3
  subst e1 e3 hn
  exact ⟨_, _, rfl, h1, h2, fun h0 => by rw [hA h0]; exact g3 h0⟩
theorem cut3_facts {α : Type} {R : Rep α} {L Z : List Chunk} {w : World} {A : Option Addr} {n c : Nat} {xs : List α} (hw : Sp Z L w) {i : Nat} (hi : L[i]? = some (slC R (.slice A n c) xs)) {l h : Nat} (h1 : l ≤ h) (h2 : h ≤ xs.length) : Sp Z (slC R (.slice (cutA A h l R.sz) (h - l) (h - l)) ((xs.drop l).take (h - l)) :: L) w := by
  obtain ⟨T, S, hT⟩ := hw
  have hs1 : SlR R S w (.slice A n c) xs := hT.ok (fr_get hi)
  have hl : ((xs.drop l).take (h - l)).length = h - l := by rw [List.length_take, List.length_drop]; omega
  have hb := hs1
  obtain ⟨A2, c2, e2, g1, g2, -⟩ := hb
  injection e2 with q1 q2 q3
  subst q1 q2 q3
  obtain ⟨T', h'⟩ := SepL.facts [slC R (.slice (cutA A h l R.sz) (h - l) (h - l)) ((xs.drop l).take (h - l))] hT (fun c hc => by
    simp only [List.mem_singleton] at hc
    subst hc
    refine SlR.recap (hs1.cut l h h1 h2) hl.symm (fun h0 => ?_) (by omega) (by omega)
    rw [hl] at h0
    unfold cutA
    rw [if_neg (by omega), if_neg (by omega)])
  exact ⟨T', S, h'⟩
theorem G_cut3 {α : Type} {R : Rep α} {X : Cx} {ops : Array Oper} {K : K3} {s : Env} {L : List Chunk} {ol : List Oper} {A : Option Addr} {n c : Nat} {xs : List α} (i : Nat) (hi : L[i]? = some (slC R (.slice A n c) xs)) {l h : Nat} (h1 : l ≤ h) (h2 : h ≤ xs.length) (k : ∀ A' n' c', A' = cutA A h l R.sz ∧ n' = h - l ∧ c' = h - l → RunG X ops ol K s (slC R (.slice A' n' c') ((xs.drop l).take (h - l)) :: L)) : RunG X ops ol K s L := fun H Ds a w ha hd hw => k _ _ _ ⟨rfl, rfl, rfl⟩ H Ds a w ha hd (cut3_facts hw hi h1 h2)
section
variable {P : Program} {s : Env} {L : List Chunk} {d : Option Nat} {ty : TypeId} {pos : String} {af : Array Edge} {gd : Option (Nat × Bool)}
theorem ev_cut3 {C : World → Prop} {t e sz : Nat} {x o y z : Operand} {A : Option Addr} {n c : Nat} {l h : Nat} (hx : evE s x = some (.slice A n c)) (hu : P.underlying t = some (.slice e)) (hs : sizeB P e sz = true) (hl : evE s o = some (.int .i64 (l : Int))) (hh : evE s y = some (.int .i64 (h : Int))) (hm : evE s z = some (.int .i64 (h : Int))) (h1 : l ≤ h) (h2 : h ≤ c) : Ev P s C ⟨d, .slice t x (some o) (some y) (some z), ty, pos, af, gd⟩ (.slice (cutA A h l sz) (h - l) (h - l)) := fun ρ hρ w _ => by
  unfold execOp
  simp only [Option.map_some, Option.map_none, hρ x _ hx, hρ o _ hl, hρ y _ hh, hρ z _ hm, Instr.sliceAt, Instr.slice, Instr.sliceBounds, Sem.run_bind, run_underlying hu, Result.andThen_ok, run_bound h2, run_bound h1, run_bound (Nat.le_refl h), sizeB_run hs w, Sem.run_pure]
  rfl
theorem rd_cut3 {α : Type} {R : Rep α} {t e sz : Nat} {x o y z : Operand} {A A' : Option Addr} {n c n' c' : Nat} {xs : List α} {l h : Nat} (i : Nat) (hL : L[i]? = some (slC R (.slice A n c) xs)) (he : A' = cutA A h l R.sz ∧ n' = h - l ∧ c' = h - l) (hx : evE s x = some (.slice A n c)) (hu : P.underlying t = some (.slice e)) (hs : sizeB P e sz = true) (hsz : R.sz = sz)
    (hl : evE s o = some (.int .i64 (l : Int))) (hh : evE s y = some (.int .i64 (h : Int))) (hm : evE s z = some (.int .i64 (h : Int))) (h1 : l ≤ h) (h2 : h ≤ xs.length) : Rd P s L ⟨d, .slice t x (some o) (some y) (some z), ty, pos, af, gd⟩ (.slice A' n' c') := fun Z w hw => by
  obtain ⟨rfl, rfl, rfl⟩ := he
  subst hsz
  obtain ⟨T, S, A2, c2, e2, g1, -⟩ := hw.get (fr_get hL)
  injection e2 with q1 q2 q3
  subst q1 q2 q3
  exact ev_cut3 hx hu hs hl hh hm h1 (by omega)
end
end Go.Proofs.Ytmbaennilhdieaa
