/- The walk over chunks: regions that draw their order. Over any program. -/
import Derived.Test.YtmbaennilhdieaaA5
namespace Go.Proofs.Ytmbaennilhdieaa
open Go.RowKit

section
variable {r : Option Nat} {P : Program} {ops : Array Oper} {Q : Exit → Act → World → Prop} {C : World → Prop}
theorem sem_fen (r : Option Nat) (ρ : Operand → Value) {o : Oper} (hn : ndef o = true) : o.semAt (Fen r).round ρ = execOp ρ o := Oper.semAt_eq _ _ _ fun c hc => by unfold ndef at hn; rw [hc] at hn; cases hn
theorem yc_wpOp {i : Nat} {o : Oper} {v : Value} {a : Act} (hi : ops[i]? = some o) (hn : ndef o = true) (hy : YieldsC P ops C o v a) {K : Act → World → Prop} {w : World} (hC : C w) (h : K (a.put o.dst v) w) : wpOpIn (Fen r) 0 P ops Q i K a w := by
  unfold Go.wpOpIn
  simp only [hi]
  rcases hy with ⟨hw, hv⟩ | ⟨hw, rfl⟩
  · simp only [hw, if_true, Oper.wpIn, sem_fen r _ hn, hv w hC, Oper.uponIn]; exact ⟨fun _ _ => trivial, h⟩
  · simp only [hw, Bool.false_eq_true, if_false]; exact ⟨fun _ _ => trivial, h⟩
theorem wpOpIn_putC {j : Nat} {oi oj : Oper} {v : Value} (hj : ops[j]? = some oj) (hnj : ndef oj = true) (hap : oi.apart ops oj = true) (hsi : ∀ cs b, oi.op ≠ .select cs b) (hsj : ∀ cs b, oj.op ≠ .select cs b)
    (hQ : ∀ c a w, ¬ Q (.panic c) a w) {K : Act → World → Prop} {a : Act} {w : World}
    (hy : YieldsC P ops C oi v a) (h : wpOpIn (Fen r) 0 P ops Q j (fun a w => C w ∧ K a w) (a.put oi.dst v) w) : wpOpIn (Fen r) 0 P ops Q j (fun a' w' => C w' ∧ YieldsC P ops C oi v a' ∧ K (a'.put oi.dst v) w') a w := by
  obtain ⟨h1, h2, h3⟩ := Oper.apart_spec hap
  have keep : ∀ (a : Act), YieldsC P ops C oi v a → ∀ u, YieldsC P ops C oi v (a.put oj.dst u) := fun a hy u => hy.of_same (execOp_put oi hsi a oj.dst u h3) (wanted_put oi a oj.dst u h3)
  have keepD : ∀ d, YieldsC P ops C oi v { a with defers := d :: a.defers } := fun d => hy.of_same rfl rfl
  unfold wpOpIn at *
  simp only [hj] at *
  rw [wanted_put oj a oi.dst v h1] at h
  split
  · rename_i hw
    simp only [hw, if_true] at h
    unfold Oper.wpIn at *
    refine ⟨fun _ _ => trivial, ?_⟩
    have h := h.2
    rw [sem_fen r _ hnj, execOp_put oj hsj a oi.dst v h1] at h
    rw [sem_fen r _ hnj]
    generalize (execOp a.eval oj).run P w = rr at *
    cases rr with
    | ok x w' =>
      cases x <;> simp only [Oper.uponIn] at h ⊢
      case value u => exact ⟨h.1, keep a hy u, by rw [← Act.put_comm a v u h2]; exact h.2⟩
      case skip => exact ⟨h.1, keep a hy _, by rw [← Act.put_comm a v undef h2]; exact h.2⟩
      case defer d =>
        refine ⟨h.1, keep _ (keepD d) _, ?_⟩
        rw [← Act.put_comm _ v undef h2, ← Act.put_defers]
        exact h.2
      case enter f args =>
        refine ⟨h.1, CallsIn.mono h.2 fun e w'' he => ?_⟩
        cases e with
        | returned u => exact ⟨he.1, keep a hy u, by rw [← Act.put_comm a v u h2]; exact he.2⟩
        | panicked c => exact absurd he (hQ _ _ _)
        | outgrown => exact he
      case row row args => exact ⟨h.1, RowsIn.mono h.2 fun u w'' he => ⟨he.1, keep a hy u, by rw [← Act.put_comm a v u h2]; exact he.2⟩⟩
      case round l f tmps assign body =>
        refine ⟨h.1, RoundIn.mono h.2 fun e w'' he => ?_⟩
        cases e with
        | returned u => exact ⟨he.1, keep a hy u, by rw [← Act.put_comm a v u h2]; exact he.2⟩
        | panicked c => exact absurd he (hQ _ _ _)
        | outgrown => exact he
    | halt x w' =>
      cases x <;> simp only [Oper.uponIn] at h ⊢
      case panic u => exact absurd h (hQ _ _ _)
  · rename_i hw
    simp only [hw] at h
    exact ⟨fun _ _ => trivial, h.2.1, keep a hy _, by rw [← Act.put_comm a v undef h2]; exact h.2.2⟩
/-- all orders; after each operation C holds -/
def wpAC (r : Option Nat) (P : Program) (ops : Array Oper) (Q : Exit → Act → World → Prop) (C : World → Prop) : Nat → Array Bool → Act → World → Prop
  | 0, listed, a, w => Region.ready .any ops listed = [] ∧ Q .normal a w
  | fuel + 1, listed, a, w => (Region.ready .any ops listed = [] → Q .normal a w) ∧ ∀ i ∈ Region.ready .any ops listed, wpOpIn (Fen r) 0 P ops Q i (fun a' w' => C w' ∧ wpAC r P ops Q C fuel (listed.setIfInBounds i true) a' w') a w
theorem wpAC_any : ∀ (fuel : Nat) (listed : Array Bool) (a : Act) (w : World), wpAC r P ops Q C fuel listed a w → wpAnyIn (Fen r) 0 P .any ops Q fuel listed a w
  | 0, _, _, _, h => h
  | fuel + 1, listed, a, w, h => ⟨h.1, fun i hi => wpOpIn_mono (fun a w hh => wpAC_any fuel _ a w hh.2) (h.2 i hi)⟩
theorem wpAC_weak {C' : World → Prop} (hC : ∀ w, C' w → C w) : ∀ (fuel : Nat) (listed : Array Bool) (a : Act) (w : World), wpAC r P ops Q C' fuel listed a w → wpAC r P ops Q C fuel listed a w
  | 0, _, _, _, h => h
  | fuel + 1, listed, a, w, h => ⟨h.1, fun i hi => wpOpIn_mono (fun a w hh => ⟨hC _ hh.1, wpAC_weak hC fuel _ a w hh.2⟩) (h.2 i hi)⟩
theorem wpAC_first {i : Nat} {oi : Oper} {v : Value} (hi : ops[i]? = some oi) (hni : ∀ (j : Nat) (o : Oper), ops[j]? = some o → ndef o = true) (hsel : ∀ (j : Nat) (o : Oper) cs b, ops[j]? = some o → o.op ≠ .select cs b) (hQ : ∀ c a w, ¬ Q (.panic c) a w) :
    ∀ (fuel : Nat) (listed : Array Bool) (a : Act) (w : World), C w →
      (∀ j oj, ops[j]? = some oj → j ≠ i → listed.getD j true = false → (∀ e ∈ oj.after, Region.binds .any e = true → e.on ≠ i) → oi.apart ops oj = true) →
      i ∈ Region.ready .any ops listed → YieldsC P ops C oi v a →
      wpAC r P ops Q C fuel (listed.setIfInBounds i true) (a.put oi.dst v) w → wpAC r P ops Q C (fuel + 1) listed a w := by
  intro fuel
  induction fuel with
  | zero =>
    intro listed a w hC _ hr hy H
    refine ⟨fun h => (by rw [h] at hr; cases hr), fun j hj => ?_⟩
    by_cases hji : j = i
    · subst hji; exact yc_wpOp hi (hni _ _ hi) hy hC ⟨hC, H⟩
    · have := ready_mono hj hji
      rw [H.1] at this
      cases this
  | succ fuel ih =>
    intro listed a w hC hfree hr hy H
    refine ⟨fun h => (by rw [h] at hr; cases hr), fun j hj => ?_⟩
    by_cases hji : j = i
    · subst hji; exact yc_wpOp hi (hni _ _ hi) hy hC ⟨hC, H⟩
    · have h1 := H.2 j (ready_mono hj hji)
      obtain ⟨hjun, oj, hoj, hall⟩ := mem_ready.1 hj
      have hnot : ∀ e ∈ oj.after, Region.binds .any e = true → e.on ≠ i := fun e he hb heq => by
        have h1 := hall e he hb
        have h0 := (mem_ready.1 hr).1
        rw [heq] at h1
        rcases Nat.lt_or_ge i listed.size with h' | h'
        · simp [h'] at h0 h1; rw [h0] at h1; cases h1
        · simp [Array.getElem?_eq_none h'] at h1
      have h2 := wpOpIn_putC hoj (hni _ _ hoj) (hfree j oj hoj hji hjun hnot) (fun cs b => hsel i oi cs b hi) (fun cs b => hsel j oj cs b hoj) hQ hy h1
      have hfree' : ∀ k ok, ops[k]? = some ok → k ≠ i → (listed.setIfInBounds j true).getD k true = false →
          (∀ e ∈ ok.after, Region.binds .any e = true → e.on ≠ i) → oi.apart ops ok = true := fun k ok hk hki hun hno => by
        refine hfree k ok hk hki ?_ hno
        by_cases hjk : j = k
        · subst hjk; exact hjun
        · rw [getD_set_ne true hjk] at hun; exact hun
      refine wpOpIn_mono (fun a' w' h3 => ⟨h3.1, ih (listed.setIfInBounds j true) a' w' h3.1 hfree' (ready_mono hr (Ne.symm hji)) h3.2.1 ?_⟩) h2
      rw [Array.setIfInBounds_comm _ _ hji]
      exact h3.2.2
end
/-! the same, said of known slots and chunks; what M says holds throughout -/
def CM (M : List Chunk) (w : World) : Prop := ∃ Z, Sp Z M w
def only3 (K : K3) : K3 := fun e s L => e = .normal ∧ K .normal s L
def ndefs (ops : Array Oper) : Bool := ops.all ndef
def TkG (X : Cx) (ops : Array Oper) (K : K3) (M : List Chunk) (fuel : Nat) (listed : Array Bool) (s : Env) (L : List Chunk) : Prop := Cv L M → ∀ (H : List Chunk) (Ds : List Nat) (a : Act) (w : World), Fx X s a → a.defers = Ds.map collD → Sp (Ds.map markC ++ H) L w → wpAC X.r X.P ops (Fin3 X H (only3 K)) (CM M) fuel listed a w
def okQ (ops : Array Oper) (listed : Array Bool) (i : Nat) : Bool := ndefs ops && Region.noSelect ops && Region.free .any ops listed i && (Region.ready .any ops listed).contains i
theorem ndefs_get {ops : Array Oper} (h : ndefs ops = true) (j : Nat) (o : Oper) (hj : ops[j]? = some o) : ndef o = true := Array.all_eq_true_iff_forall_mem.1 h o (Array.mem_of_getElem? hj)
section
variable {X : Cx} {ops : Array Oper} {K : K3} {M : List Chunk} {s : Env} {L : List Chunk} {fuel : Nat} {listed : Array Bool} {d : Nat} {op : Op} {ty : TypeId} {pos : String} {af : Array Edge} {gd : Option (Nat × Bool)}
/-- an operation that reads what M says -/
theorem T3_rd (i : Nat) {v : Value} (hi : ops[i]? = some ⟨some d, op, ty, pos, af, gd⟩) (hk : okQ ops listed i = true) (h : Rd X.P s M ⟨some d, op, ty, pos, af, gd⟩ v) (hg : guardE ops s ⟨some d, op, ty, pos, af, gd⟩ = some true) (hd : Nat.ble (d + 1) X.n = true)
    (k : TkG X ops K M fuel (listed.setIfInBounds i true) ((d, v) :: s) L) : TkG X ops K M (fuel + 1) listed s L := by
  intro hc H Ds a w ha hds hw
  unfold okQ at hk
  simp only [Bool.and_eq_true] at hk
  obtain ⟨⟨⟨h0, h1⟩, h2⟩, h3⟩ := hk
  refine wpAC_first hi (ndefs_get h0) (Region.noSelect_spec h1) (fun c a w ⟨_, _, _, _, _, _, he, _⟩ => (by cases he)) fuel listed a w ⟨_, hc _ _ hw⟩ (Region.free_spec hi h2) (by simpa using h3) (.inl ⟨guard_wantedX ha hg, fun w ⟨Z, hZ⟩ => h Z w hZ a.eval (fun x u hx => ha.eval hx) w rfl⟩) ?_
  exact k hc H Ds _ _ (ha.put v (Nat.le_of_ble_eq_true hd)) hds hw
theorem T3_ev (i : Nat) {v : Value} (hi : ops[i]? = some ⟨some d, op, ty, pos, af, gd⟩) (hk : okQ ops listed i = true) (h : Ev X.P s (fun _ => True) ⟨some d, op, ty, pos, af, gd⟩ v) (hg : guardE ops s ⟨some d, op, ty, pos, af, gd⟩ = some true) (hd : Nat.ble (d + 1) X.n = true)
    (k : TkG X ops K M fuel (listed.setIfInBounds i true) ((d, v) :: s) L) : TkG X ops K M (fuel + 1) listed s L := T3_rd i hi hk (fun _ _ _ ρ hρ w _ => h ρ hρ w trivial) hg hd k
theorem T3_no (i : Nat) (hi : ops[i]? = some ⟨some d, op, ty, pos, af, gd⟩) (hk : okQ ops listed i = true) (hg : guardE ops s ⟨some d, op, ty, pos, af, gd⟩ = some false) (hd : Nat.ble (d + 1) X.n = true)
    (k : TkG X ops K M fuel (listed.setIfInBounds i true) ((d, undef) :: s) L) : TkG X ops K M (fuel + 1) listed s L := by
  intro hc H Ds a w ha hds hw
  unfold okQ at hk
  simp only [Bool.and_eq_true] at hk
  obtain ⟨⟨⟨h0, h1⟩, h2⟩, h3⟩ := hk
  refine wpAC_first hi (ndefs_get h0) (Region.noSelect_spec h1) (fun c a w ⟨_, _, _, _, _, _, he, _⟩ => (by cases he)) fuel listed a w ⟨_, hc _ _ hw⟩ (Region.free_spec hi h2) (by simpa using h3) (.inr ⟨guard_wantedX ha hg, rfl⟩) ?_
  exact k hc H Ds _ _ (ha.put undef (Nat.le_of_ble_eq_true hd)) hds hw
/-- one of the operations that may come now -/
def Turn (X : Cx) (ops : Array Oper) (K : K3) (M : List Chunk) (fuel : Nat) (listed : Array Bool) (s : Env) (L : List Chunk) (i : Nat) : Prop := Cv L M → ∀ (H : List Chunk) (Ds : List Nat) (a : Act) (w : World), Fx X s a → a.defers = Ds.map collD → Sp (Ds.map markC ++ H) L w → wpOpIn (Fen X.r) 0 X.P ops (Fin3 X H (only3 K)) i (fun a' w' => CM M w' ∧ wpAC X.r X.P ops (Fin3 X H (only3 K)) (CM M) fuel (listed.setIfInBounds i true) a' w') a w
theorem turn_op {i : Nat} {o : Oper} {R : Value → List Chunk → Prop} (hi : ops[i]? = some o) (h : OpX X.P s L o R) (hn : ndef o = true) (hg : guardE ops s o = some true) (hd : dstOk X.n o.dst = true) (k : ∀ v L', R v L' → ∃ M', Cv L' M' ∧ Cv M' M ∧ TkG X ops K M' fuel (listed.setIfInBounds i true) (putE o.dst v s) L') : Turn X ops K M fuel listed s L i := by
  intro hc H Ds a w ha hds hw
  unfold wpOpIn
  rw [hi]
  simp only [guard_wantedX ha hg, if_true]
  refine h.wpIn hn ha hw fun v L' w' h1 h2 => ?_
  obtain ⟨M', h3, h4, h5⟩ := k v L' h1
  exact ⟨⟨_, h4 _ _ (h3 _ _ h2)⟩, wpAC_weak (fun w ⟨Z, hZ⟩ => ⟨Z, h4 _ _ hZ⟩) _ _ _ _ (h5 h3 H Ds _ _ (ha.putE v hd) ((put_defers _ _ _).trans hds) h2)⟩
/-- the only operation that may come now -/
theorem T3_op (i : Nat) {o : Oper} {R : Value → List Chunk → Prop} (hi : ops[i]? = some o) (hr : Region.ready .any ops listed = [i]) (h : OpX X.P s L o R) (hn : ndef o = true) (hg : guardE ops s o = some true) (hd : dstOk X.n o.dst = true) (k : ∀ v L', R v L' → ∃ M', Cv L' M' ∧ Cv M' M ∧ TkG X ops K M' fuel (listed.setIfInBounds i true) (putE o.dst v s) L') : TkG X ops K M (fuel + 1) listed s L :=
  fun hc H Ds a w ha hds hw => ⟨fun h => absurd (hr.symm.trans h) (by simp), fun j hj => by
    rw [hr, List.mem_singleton] at hj
    subst hj
    exact turn_op hi h hn hg hd k hc H Ds a w ha hds hw⟩
theorem T3_done (hr : Region.ready .any ops listed = []) (h : K .normal s L) : TkG X ops K M fuel listed s L := by
  intro hc H Ds a w ha hds hw
  have hq : Fin3 X H (only3 K) .normal a w := ⟨s, L, Ds, ha, hds, hw, rfl, h⟩
  cases fuel with
  | zero => exact ⟨hr, hq⟩
  | succ n => exact ⟨fun _ => hq, by rw [hr]; simp⟩
theorem T3_sub {t : Env} {L' : List Chunk} (h : TkG X ops K M fuel listed t L') (hs : Sub s t) (hl : Cv L L') (hm : Cv L' M) : TkG X ops K M fuel listed s L := fun _ H Ds a w ha hds hw => h hm H Ds a w (ha.sub hs) hds (hl _ _ hw)
def setAll (l : Array Bool) (ix : List Nat) : Array Bool := ix.foldl (fun l i => l.setIfInBounds i true) l
theorem T3_case (d : Nat) {g : Bool} (hl : look s d = some (.bool g)) (h1 : g = true → TkG X ops K M fuel listed s L) (h2 : g = false → TkG X ops K M fuel listed s L) : TkG X ops K M fuel listed s L := by
  cases g with
  | true => exact h1 rfl
  | false => exact h2 rfl
theorem cv_tl {c : Chunk} : Cv (c :: L) L := fun Z w h => by
  have := SepL.pick (L' := L ++ Z) h (· + 1) (fun j c hj => by simpa using hj) (fun i j _ _ e => by omega)
  exact this
theorem G_drawn {id : Nat} {l : List Oper} (hm : X.P.follows .mixedOrders = true) (M : List Chunk) (hM : Cv L M) (h : TkG X l.toArray K M l.length (Array.replicate l.length false) s L) : Wq X (.region id l.toArray true) K s L := by
  intro H Ds a w ha hds hw
  have hw1 : Sp (Ds.map markC ++ H) L { w with drawn := w.drawn + 1 } := SepL.same hw ⟨rfl, rfl, rfl, Nat.le_refl _, fun _ _ _ => rfl⟩
  have h1 := wpAC_any _ _ _ _ (h hM H Ds a _ ha hds hw1)
  refine wpIn_mono (wpIn_region_any hm (by simpa using h1)) ?_
  rintro e a' w' ⟨s', L', Ds', g1, g2, g3, rfl, g4⟩
  exact ⟨s', L', Ds', g1, g2, g3, g4⟩
end
end Go.Proofs.Ytmbaennilhdieaa
