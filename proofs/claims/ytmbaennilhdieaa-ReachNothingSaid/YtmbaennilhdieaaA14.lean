/- The walk over chunks: regions that draw their order, each operation shown once. Over any program. -/
import Derived.Test.YtmbaennilhdieaaA12
namespace Go.Proofs.Ytmbaennilhdieaa
open Go.RowKit

/-- a bare fact -/
def pureC (p : Prop) : Chunk where
  ok _ _ _ := p
  loc := fun _ h => h
  mono := fun _ h => h
  ro := true
  dup := fun _ _ _ _ h => h
theorem sp_pure {L Z : List Chunk} {w : World} {p : Prop} (h : Sp Z L w) (i : Nat) (hi : L[i]? = some (pureC p)) : p := by
  obtain ⟨T, S, h⟩ := h.get (fr_get hi)
  exact h
theorem cv_pure {L : List Chunk} {p : Prop} (hp : p) : Cv L (pureC p :: L) := fun Z w h => SepL.fact0 h fun _ => hp
/-- from t the operation i is reached along edges that bind -/
inductive Rch (ops : Array Oper) : Nat → Nat → Prop
  | one {j : Nat} {o : Oper} {e : Edge} : ops[j]? = some o → e ∈ o.after → Region.binds .any e = true → Rch ops j e.on
  | more {j k : Nat} {o : Oper} {e : Edge} : Rch ops j k → ops[k]? = some o → e ∈ o.after → Region.binds .any e = true → Rch ops j e.on
def ClosedL (ops : Array Oper) (listed : Array Bool) : Prop := ∀ k o e, listed.getD k false = true → ops[k]? = some o → e ∈ o.after → Region.binds .any e = true → listed.getD e.on false = true
theorem rch_listed {ops : Array Oper} {listed : Array Bool} {j i : Nat} (hc : ClosedL ops listed) (hr : j ∈ Region.ready .any ops listed) (h : Rch ops j i) : listed.getD i false = true := by
  induction h with
  | one ho he hb => obtain ⟨_, o', ho', hall⟩ := mem_ready.1 hr; rw [ho] at ho'; cases ho'; exact hall _ he hb
  | more _ ho he hb ih => exact hc _ _ _ ih ho he hb
theorem getD_set_false {listed : Array Bool} {i k : Nat} (h : (listed.setIfInBounds i true).getD k false = true) : k = i ∨ listed.getD k false = true := by
  by_cases e : i = k
  · exact .inl e.symm
  · rw [getD_set_ne false e] at h; exact .inr h
theorem closed_set {ops : Array Oper} {listed : Array Bool} {j : Nat} (hc : ClosedL ops listed) (hr : j ∈ Region.ready .any ops listed) : ClosedL ops (listed.setIfInBounds j true) := by
  intro k o e hk ho he hb
  rcases getD_set_false hk with e1 | hk
  · subst e1
    obtain ⟨_, o', ho', hall⟩ := mem_ready.1 hr
    rw [ho] at ho'; cases ho'
    exact getD_set_true (hall _ he hb)
  · exact getD_set_true (hc _ _ _ hk ho he hb)
def onsOf (ops : Array Oper) (k : Nat) : List Nat := match ops[k]? with
  | some o => (o.after.toList.filter (Region.binds .any)).map (·.on)
  | none => []
def rstep (ops : Array Oper) (R : List Nat) (k : Nat) : List Nat := if R.contains k then onsOf ops k ++ R else R
def reachL (ops : Array Oper) (t : Nat) : List Nat := (List.range t).reverse.foldl (rstep ops) (onsOf ops t)
theorem ons_spec {ops : Array Oper} {k x : Nat} (h : x ∈ onsOf ops k) : ∃ o e, ops[k]? = some o ∧ e ∈ o.after ∧ Region.binds .any e = true ∧ e.on = x := by
  unfold onsOf at h
  split at h
  · rename_i o ho
    obtain ⟨e, he, rfl⟩ := List.mem_map.1 h
    obtain ⟨h1, h2⟩ := List.mem_filter.1 he
    exact ⟨o, e, ho, by simpa using h1, h2, rfl⟩
  · cases h
theorem reachL_spec {ops : Array Oper} {t : Nat} : ∀ x ∈ reachL ops t, Rch ops t x := by
  unfold reachL
  have key : ∀ (l : List Nat) (R : List Nat), (∀ x ∈ R, Rch ops t x) → ∀ x ∈ l.foldl (rstep ops) R, Rch ops t x := by
    intro l
    induction l with
    | nil => intro R h; exact h
    | cons k l ih =>
      intro R h
      refine ih _ fun x hx => ?_
      unfold rstep at hx
      split at hx
      · rename_i hk
        rcases List.mem_append.1 hx with h1 | h1
        · obtain ⟨o, e, ho, he, hb, rfl⟩ := ons_spec h1
          exact .more (h k (by simpa using hk)) ho he hb
        · exact h x h1
      · exact h x hx
  refine key _ _ fun x hx => ?_
  obtain ⟨o, e, ho, he, hb, rfl⟩ := ons_spec hx
  exact .one ho he hb

/-! what is shown of one operation -/
def OpAt (P : Program) (ρ : Operand → Value) (o : Oper) (R : Value → List Chunk → Prop) (Z : List Chunk) (w : World) : Prop :=
    (∃ v w' L', (execOp ρ o).run P w = .ok (.value v) w' ∧ Sp Z L' w' ∧ R v L') ∨
    (∃ w' L', (execOp ρ o).run P w = .ok .skip w' ∧ Sp Z L' w' ∧ R undef L') ∨
    (∃ f args, (execOp ρ o).run P w = .ok (.enter f args) w ∧ Calls P f args w fun e w' => ∃ v L', e = .returned v ∧ Sp Z L' w' ∧ R v L') ∨
    (∃ l f tmps assign body, (execOp ρ o).run P w = .ok (.round l f tmps assign body) w ∧ RoundIn Fence.wide 0 P l f tmps assign body w fun e w' => ∃ v L', e = .returned v ∧ Sp Z L' w' ∧ R v L')
/-- from s and L the operation o, where it is wanted, ends in a value u with the chunks A u -/
def MS (P : Program) (ops : Array Oper) (s : Env) (L : List Chunk) (o : Oper) (A : Value → List Chunk) : Prop := ∀ Z w, Sp Z L w → (guardE ops s o = some true ∧ ∀ ρ : Operand → Value, (∀ x u, evE s x = some u → ρ x = u) → OpAt P ρ o (fun u L' => Cv L' (A u ++ L)) Z w) ∨ (guardE ops s o = some false ∧ Sp Z (A undef ++ L) w)
section
variable {P : Program} {ops : Array Oper} {s : Env} {L : List Chunk} {o : Oper} {A : Value → List Chunk}
end
/-! all orders, without what holds throughout -/
def TkN (X : Cx) (ops : Array Oper) (K : K3) (fuel : Nat) (listed : Array Bool) (s : Env) (L : List Chunk) : Prop := ∀ (H : List Chunk) (Ds : List Nat) (a : Act) (w : World), Fx X s a → a.defers = Ds.map collD → Sp (Ds.map markC ++ H) L w → wpAnyIn (Fen X.r) 0 X.P .any ops (Fin3 X H (only3 K)) fuel listed a w
section
variable {X : Cx} {ops : Array Oper} {K : K3} {s : Env} {L : List Chunk} {fuel : Nat} {listed : Array Bool} {d : Nat} {op : Op} {ty : TypeId} {pos : String} {af : Array Edge} {gd : Option (Nat × Bool)}
theorem N_done (hr : Region.ready .any ops listed = []) (h : K .normal s L) : TkN X ops K fuel listed s L := by
  intro H Ds a w ha hds hw
  have hq : Fin3 X H (only3 K) .normal a w := ⟨s, L, Ds, ha, hds, hw, rfl, h⟩
  cases fuel with
  | zero => exact ⟨hr, hq⟩
  | succ n => exact ⟨fun _ => hq, by rw [hr]; simp⟩
theorem N_sub {t : Env} {L' : List Chunk} (h : TkN X ops K fuel listed t L') (hs : Sub s t) (hl : Cv L L') : TkN X ops K fuel listed s L := fun H Ds a w ha hds hw => h H Ds a w (ha.sub hs) hds (hl _ _ hw)
theorem N_norm {L' : List Chunk} (L : List Chunk) (h : L' = L) (k : TkN X ops K fuel listed s L) : TkN X ops K fuel listed s L' := h ▸ k
theorem N_op (i : Nat) {o : Oper} {R : Value → List Chunk → Prop} (hi : ops[i]? = some o) (hr : Region.ready .any ops listed = [i]) (h : OpX X.P s L o R) (hn : ndef o = true) (hg : guardE ops s o = some true) (hd : dstOk X.n o.dst = true) (k : ∀ v L', R v L' → TkN X ops K fuel (listed.setIfInBounds i true) (putE o.dst v s) L') : TkN X ops K (fuel + 1) listed s L :=
  fun H Ds a w ha hds hw => ⟨fun h => absurd (hr.symm.trans h) (by simp), fun j hj => by
    rw [hr, List.mem_singleton] at hj
    subst hj
    unfold wpOpIn
    rw [hi]
    simp only [guard_wantedX ha hg, if_true]
    exact h.wpIn hn ha hw fun v L' w' h1 h2 => k v L' h1 H Ds _ _ (ha.putE v hd) ((put_defers _ _ _).trans hds) h2⟩
theorem N_opd (i : Nat) {R : Value → List Chunk → Prop} (hi : ops[i]? = some ⟨some d, op, ty, pos, af, gd⟩) (hr : Region.ready .any ops listed = [i]) (h : OpX X.P s L ⟨some d, op, ty, pos, af, gd⟩ R) (hn : ndef ⟨some d, op, ty, pos, af, gd⟩ = true) (hg : guardE ops s ⟨some d, op, ty, pos, af, gd⟩ = some true) (hd : Nat.ble (d + 1) X.n = true) (k : ∀ v L', R v L' → TkN X ops K fuel (listed.setIfInBounds i true) ((d, v) :: s) L') : TkN X ops K (fuel + 1) listed s L := N_op i hi hr h hn hg hd k
theorem N_opn (i : Nat) {R : Value → List Chunk → Prop} (hi : ops[i]? = some ⟨none, op, ty, pos, af, gd⟩) (hr : Region.ready .any ops listed = [i]) (h : OpX X.P s L ⟨none, op, ty, pos, af, gd⟩ R) (hn : ndef ⟨none, op, ty, pos, af, gd⟩ = true) (hg : guardE ops s ⟨none, op, ty, pos, af, gd⟩ = some true) (k : ∀ v L', R v L' → TkN X ops K fuel (listed.setIfInBounds i true) s L') : TkN X ops K (fuel + 1) listed s L := N_op i hi hr h hn hg rfl k
theorem N_ev (i : Nat) {v : Value} (hi : ops[i]? = some ⟨some d, op, ty, pos, af, gd⟩) (hr : Region.ready .any ops listed = [i]) (h : Ev X.P s (fun _ => True) ⟨some d, op, ty, pos, af, gd⟩ v) (hn : ndef ⟨some d, op, ty, pos, af, gd⟩ = true) (hg : guardE ops s ⟨some d, op, ty, pos, af, gd⟩ = some true) (hd : Nat.ble (d + 1) X.n = true) (k : TkN X ops K fuel (listed.setIfInBounds i true) ((d, v) :: s) L) : TkN X ops K (fuel + 1) listed s L := N_opd i hi hr (op_ev h) hn hg hd fun _ _ ⟨e1, e2⟩ => by subst e1 e2; exact k
end
/-! a region: the first m operations each once, in whatever order they come -/
def lst (m : Nat) (listed : Array Bool) : List Nat := (List.range m).filter fun i => listed.getD i false
def okM (ops : Array Oper) (m : Nat) (qs : List Nat) (ds : List Nat) (pr : List (List Nat)) (s : Env) (n : Nat) : Bool :=
  Region.noSelect ops && qs.all (fun q => (match ops[q]? with | some o => (List.range ops.size).all fun j => Nat.beq j q || (onsOf ops j).contains q || (reachL ops q).contains j || (match ops[j]? with | some oj => o.apart ops oj | none => true) | none => false)) && ndefs ops && decide (m ≤ ops.size) && decide (ds.length = m) && decide ds.Nodup && ds.all (fun d => Nat.ble (d + 1) n && s.all fun p => !Nat.beq p.1 d)
  && (List.range m).all (fun i => (match ops[i]? with | some o => o.dst == ds[i]? | none => false) && (pr.getD i []).all (fun k => (reachL ops i).contains k && Nat.blt k m) && decide (pr.getD i []).Nodup && (onsOf ops i).all fun k => Nat.blt k i)
  && (List.range ops.size).all (fun t => Nat.blt t m || (List.range m).all fun i => qs.contains i || (reachL ops t).contains i)
def envM (ds : List Nat) (val : Nat → Value) (ix : List Nat) (s : Env) : Env := ix.map (fun i => (ds.getD i 0, val i)) ++ s
def chM (As : List (Value → List Chunk)) (val : Nat → Value) (ix : List Nat) (L : List Chunk) : List Chunk := (ix.flatMap fun i => (As.getD i fun _ => []) (val i)) ++ L
theorem look_app : ∀ (a b : Env) (k : Nat) (v : Value), look (a ++ b) k = some v → look a k = some v ∨ (look b k = some v)
  | [], _, _, _, h => .inr h
  | (d, u) :: a, b, k, v, h => by
    rw [List.cons_append, look_cons] at h
    rw [look_cons]
    split at h
    · rename_i e; rw [if_pos e]; exact .inl h
    · rename_i e
      rw [if_neg e]
      exact look_app a b k v h
theorem look_mem : ∀ (a : Env) (k : Nat) (v : Value), look a k = some v → (k, v) ∈ a
  | [], _, _, h => by cases h
  | (d, u) :: a, k, v, h => by
    rw [look_cons] at h
    split at h
    · rename_i e; cases h; subst e; simp
    · simp [look_mem a k v h]
theorem OpAt.wpIn {X : Cx} {o : Oper} {R : Value → List Chunk → Prop} {Z : List Chunk} {a : Act} {w : World} (h : OpAt X.P a.eval o R Z w) (hn : ndef o = true)
    {K : Act → World → Prop} {Q : Exit → Act → World → Prop} (hK : ∀ v L' w', R v L' → Sp Z L' w' → K (a.put o.dst v) w') : o.wpIn (Fen X.r) 0 X.P a w K Q := by
  refine ⟨fun _ _ => trivial, ?_⟩
  have e : o.semAt (Fen X.r).round a.eval = execOp a.eval o := Oper.semAt_eq _ _ _ fun c hc => by unfold ndef at hn; rw [hc] at hn; cases hn
  rw [e]
  rcases h with ⟨v, w', L', h1, h2, h3⟩ | ⟨w', L', h1, h2, h3⟩ | ⟨f, args, h1, h2⟩ | ⟨l, f, tmps, assign, body, h1, h2⟩
  · rw [h1]; exact hK _ _ _ h3 h2
  · rw [h1]; exact hK _ _ _ h3 h2
  · rw [h1]
    refine ⟨(by intro h; cases h), ?_⟩
    have h3 : CallsIn (Fen X.r) (0 - 1) X.P f args w _ := callsIn_wide.2 h2
    refine h3.mono ?_
    rintro e w' ⟨v, L', rfl, h4, h5⟩
    exact hK _ _ _ h5 h4
  · rw [h1]
    refine ⟨(by intro h; cases h), ?_⟩
    have h3 : RoundIn (Fen X.r) (0 - 1) X.P l f tmps assign body w _ := h2
    refine h3.mono ?_
    rintro e w' ⟨v, L', rfl, h4, h5⟩
    exact hK _ _ _ h5 h4
theorem setAll_size : ∀ (ix : List Nat) (l : Array Bool), (setAll l ix).size = l.size
  | [], _ => rfl
  | i :: ix, l => by show (setAll (l.setIfInBounds i true) ix).size = _; rw [setAll_size ix]; simp
theorem setAll_get : ∀ (ix : List Nat) (l : Array Bool) (k : Nat), k < l.size → (setAll l ix).getD k false = (l.getD k false || ix.contains k)
  | [], _, _, _ => by simp [setAll]
  | i :: ix, l, k, hk => by
    show (setAll (l.setIfInBounds i true) ix).getD k false = _
    rw [setAll_get ix _ k (by simpa using hk)]
    by_cases e : i = k
    · subst e
      simp [hk]
    · rw [getD_set_ne false e]
      simp [show ¬ k = i from fun h => e h.symm]
theorem lst_mem {m : Nat} {listed : Array Bool} {i : Nat} : i ∈ lst m listed ↔ i < m ∧ listed.getD i false = true := by unfold lst; simp
theorem lst_nodup {m : Nat} {listed : Array Bool} : (lst m listed).Nodup := List.nodup_range.filter _
theorem ch_perm {As : List (Value → List Chunk)} {val : Nat → Value} {a b : List Nat} (h : a.Perm b) : (a.flatMap fun i => (As.getD i fun _ => []) (val i)).Perm (b.flatMap fun i => (As.getD i fun _ => []) (val i)) := h.flatMap_right _
theorem any_AC {r : Option Nat} {P : Program} {ops : Array Oper} {Q : Exit → Act → World → Prop} : ∀ (fuel : Nat) (listed : Array Bool) (a : Act) (w : World), wpAnyIn (Fen r) 0 P .any ops Q fuel listed a w → wpAC r P ops Q (fun _ => True) fuel listed a w
  | 0, _, _, _, h => h
  | fuel + 1, listed, a, w, h => ⟨h.1, fun i hi => wpOpIn_mono (fun a w hh => ⟨trivial, any_AC fuel _ a w hh⟩) (h.2 i hi)⟩
/-- an operation whose value does not depend on the world -/
def QS (P : Program) (ops : Array Oper) (s : Env) (L : List Chunk) (o : Oper) (A : Value → List Chunk) : Prop := ∀ Z w, Sp Z L w → ∃ v, guardE ops s o = some true ∧ Ev P s (fun _ => True) o v ∧ Sp Z (A v ++ L) w
def QS2 (P : Program) (ops : Array Oper) (s : Env) (L L0 : List Chunk) (o : Oper) (A : Value → List Chunk) : Prop := ∀ Z w, Sp Z L w → ∃ v, guardE ops s o = some true ∧ Ev P s (fun _ => True) o v ∧ Sp Z (A v ++ L0) w
theorem QS_ev {P : Program} {ops : Array Oper} {s : Env} {L L0 : List Chunk} {o : Oper} {A : Value → List Chunk} {v : Value} (h : Ev P s (fun _ => True) o v) (hg : guardE ops s o = some true) (k : Cv L (A v ++ L0)) : QS2 P ops s L L0 o A := fun _ _ hw => ⟨v, hg, h, k _ _ hw⟩
/-- the first m operations, each shown once, whatever the order -/
theorem G_monoR {X : Cx} {K : K3} {s : Env} {L : List Chunk} {id : Nat} {l : List Oper} (hm : X.P.follows .mixedOrders = true) (m : Nat) (qs : List Nat) (ds : List Nat) (pr : List (List Nat)) (As : List (Value → List Chunk)) (hok : okM l.toArray m qs ds pr s X.n = true)
    (qstep : ∀ q ∈ qs, ∀ (o : Oper), q < m → l.toArray[q]? = some o → ∀ val : Nat → Value, QS X.P l.toArray (envM ds val (pr.getD q []) s) (chM As val (pr.getD q []) L) o (As.getD q fun _ => []))
    (step : ∀ (i : Nat) (o : Oper), i < m → l.toArray[i]? = some o → ∀ val : Nat → Value, MS X.P l.toArray (envM ds val (pr.getD i []) s) (chM As val (pr.getD i []) L) o (As.getD i fun _ => []))
    (fin : ∀ val : Nat → Value, TkN X l.toArray K (l.length - m) (setAll (Array.replicate l.length false) (List.range m)) (envM ds val (List.range m) s) (chM As val (List.range m) L)) : Wq X (.region id l.toArray true) K s L := by
  unfold okM at hok
  simp only [Bool.and_eq_true, decide_eq_true_eq, List.all_eq_true, List.mem_range] at hok
  obtain ⟨⟨⟨⟨⟨⟨⟨⟨hns, hqs⟩, h1⟩, h2⟩, h3⟩, h4⟩, h5⟩, h6⟩, h7⟩ := hok
  simp only [List.size_toArray] at h2 h7 hqs
  have hdst : ∀ i o, i < m → l.toArray[i]? = some o → o.dst = some (ds.getD i 0) := fun i o hi ho => by
    have h8 := (h6 i hi).1.1.1
    rw [ho] at h8
    have h9 : o.dst = ds[i]? := by simpa using h8
    rw [h9]
    simp [List.getD, h3, hi]
  have hds : ∀ i j, i < m → j < m → ds.getD i 0 = ds.getD j 0 → i = j := fun i j hi hj e => by
    have e1 : ds.getD i 0 = ds[i]'(by omega) := by simp [List.getD, h3, hi]
    have e2 : ds.getD j 0 = ds[j]'(by omega) := by simp [List.getD, h3, hj]
    rw [e1, e2] at e
    have hp := List.pairwise_iff_getElem.1 h4
    rcases Nat.lt_trichotomy i j with h | h | h
    · exact absurd e (hp i j (by omega) (by omega) h)
    · exact h
    · exact absurd e.symm (hp j i (by omega) (by omega) h)
  have hdn : ∀ i, i < m → ds.getD i 0 < X.n ∧ ∀ k v, look s k = some v → k ≠ ds.getD i 0 := fun i hi => by
    have hmem : ds.getD i 0 ∈ ds := by
      have e1 : ds.getD i 0 = ds[i]'(by omega) := by simp [List.getD, h3, hi]
      rw [e1]; exact List.getElem_mem _
    have h8 := h5 _ hmem
    refine ⟨Nat.le_of_ble_eq_true h8.1, fun k v hp e => ?_⟩
    have h9 := h8.2 _ (look_mem _ _ _ hp)
    simp only [e, Nat.beq_refl] at h9
    cases h9
  have hpr : ∀ i, i < m → (∀ k ∈ pr.getD i [], k ∈ reachL l.toArray i ∧ k < m) ∧ (pr.getD i []).Nodup ∧ ∀ k ∈ onsOf l.toArray i, k < i := fun i hi => by
    obtain ⟨⟨⟨-, g2⟩, g3⟩, g4⟩ := h6 i hi
    refine ⟨fun k hk => ?_, g3, fun k hk => ?_⟩
    · have g5 := g2 k hk
      exact ⟨by simpa using g5.1, Nat.lt_of_succ_le (Nat.le_of_ble_eq_true g5.2)⟩
    · exact Nat.lt_of_succ_le (Nat.le_of_ble_eq_true (g4 k hk))
  -- the invariant
  have main : ∀ (fuel : Nat) (listed : Array Bool) (val : Nat → Value) (H : List Chunk) (Ds : List Nat) (a : Act) (w : World), listed.size = l.length → ClosedL l.toArray listed → (∀ t, m ≤ t → listed.getD t false = false) → fuel + (lst m listed).length = l.length → Fx X s a → (∀ i, i < m → listed.getD i false = true → a.tmps.getD (ds.getD i 0) undef = val i) → a.defers = Ds.map collD → Sp (Ds.map markC ++ H) (chM As val (lst m listed) L) w → wpAnyIn (Fen X.r) 0 X.P .any l.toArray (Fin3 X H (only3 K)) fuel listed a w := by
    intro fuel
    induction fuel with
    | zero =>
      intro listed val H Ds a w hsz hcl hhi hfu hfx hval hdf hsp
      have hle : (lst m listed).length ≤ (List.range m).length := List.length_filter_le _ _
      have hm' : m = l.length := by rw [List.length_range] at hle; omega
      have hlst : lst m listed = List.range m := List.filter_eq_self.2 fun i hi => List.length_filter_eq_length_iff.1 (show (lst m listed).length = (List.range m).length by rw [List.length_range]; omega) i hi
      have hli : setAll (Array.replicate l.length false) (List.range m) = listed := by
        apply Array.ext
        · rw [setAll_size]; simp [hsz]
        · intro k hk hk2
          rw [setAll_size] at hk
          have e1 := setAll_get (List.range m) (Array.replicate l.length false) k hk
          simp only [Array.size_replicate] at hk
          have hin : k ∈ lst m listed := by rw [hlst]; simp; omega
          have e2 := (lst_mem.1 hin).2
          have e3 : (List.range m).contains k = true := by simp; omega
          rw [e3, Bool.or_true] at e1
          simp only [Array.getD_eq_getD_getElem?, Array.getElem?_eq_getElem, hk2, Option.getD_some] at e2
          have hk3 : k < (setAll (Array.replicate l.length false) (List.range m)).size := by rw [setAll_size]; simpa using hk
          simp only [Array.getD_eq_getD_getElem?, Array.getElem?_eq_getElem, hk3, Option.getD_some] at e1
          rw [e1, e2]
      rw [hlst] at hsp
      have hf := fin val H Ds a w ⟨hfx.size, fun k v hk => by
        rcases look_app _ _ _ _ hk with h | h
        · obtain ⟨i, hi, he⟩ := List.mem_map.1 (look_mem _ _ _ h)
          cases he
          have hi' : i ∈ lst m listed := by rw [hlst]; exact hi
          exact hval i (lst_mem.1 hi').1 (lst_mem.1 hi').2
        · exact hfx.at_ k v h⟩ hdf hsp
      rw [hli, show l.length - m = 0 by omega] at hf
      exact hf
    | succ fuel ih =>
      intro listed val H Ds a w hsz hcl hhi hfu hfx hval hdf hsp
      by_cases hall : ∀ i, i < m → listed.getD i false = true
      · have hlst : lst m listed = List.range m := List.filter_eq_self.2 fun i hi => hall i (by simpa using hi)
        have hli : setAll (Array.replicate l.length false) (List.range m) = listed := by
          apply Array.ext
          · rw [setAll_size]; simp [hsz]
          · intro k hk hk2
            rw [setAll_size] at hk
            have e1 := setAll_get (List.range m) (Array.replicate l.length false) k hk
            have hk3 : k < (setAll (Array.replicate l.length false) (List.range m)).size := by rw [setAll_size]; exact hk
            simp only [Array.getD_eq_getD_getElem?, Array.getElem?_eq_getElem, hk3, Option.getD_some] at e1
            rw [e1]
            simp only [Array.size_replicate] at hk
            by_cases hkm : k < m
            · have e2 := hall k hkm
              simp only [Array.getD_eq_getD_getElem?, Array.getElem?_eq_getElem, hk2, Option.getD_some] at e2
              rw [e2]; simp [hkm]
            · have e2 := hhi k (by omega)
              simp only [Array.getD_eq_getD_getElem?, Array.getElem?_eq_getElem, hk2, Option.getD_some] at e2
              rw [e2]; simp [hk, hkm]
        rw [hlst] at hsp hfu
        rw [List.length_range] at hfu
        have hf := fin val H Ds a w ⟨hfx.size, fun k v hk => by
          rcases look_app _ _ _ _ hk with h | h
          · obtain ⟨i, hi, he⟩ := List.mem_map.1 (look_mem _ _ _ h)
            cases he
            have hi' : i < m := by simpa using hi
            exact hval i hi' (hall i hi')
          · exact hfx.at_ k v h⟩ hdf hsp
        rw [hli, show l.length - m = fuel + 1 by omega] at hf
        exact hf
      · have hex : ∃ i, i < m ∧ listed.getD i false = false := by
          refine Classical.byContradiction fun h => hall fun i hi => ?_
          cases hb : listed.getD i false with
          | true => rfl
          | false => exact absurd ⟨i, hi, hb⟩ h
        have hun : ∀ i, listed.getD i false = false → i < l.length → listed.getD i true = false := fun i hi hlt => by
          simp only [Array.getD_eq_getD_getElem?, Array.getElem?_eq_getElem, hsz, hlt, Option.getD_some] at hi ⊢
          exact hi
        have hleast : ∃ i0, i0 < m ∧ listed.getD i0 false = false ∧ i0 ∈ Region.ready .any l.toArray listed := by
          obtain ⟨⟨hi0, hu0⟩, hmin⟩ := leastOf_spec hex
          generalize leastOf (fun i => i < m ∧ listed.getD i false = false) = i0 at hi0 hu0 hmin
          have hlt : i0 < l.length := by omega
          refine ⟨i0, hi0, hu0, ?_⟩
          · 
            refine mem_ready.2 ⟨hun i0 hu0 hlt, l[i0], by simp [hlt], fun e he hb => ?_⟩
            have hon : e.on ∈ onsOf l.toArray i0 := by
              unfold onsOf
              rw [show l.toArray[i0]? = some l[i0] by simp [hlt]]
              exact List.mem_map.2 ⟨e, List.mem_filter.2 ⟨by simpa using he, hb⟩, rfl⟩
            have hlt2 := (hpr i0 hi0).2.2 _ hon
            cases hb2 : listed.getD e.on false with
            | true => rfl
            | false => have := hmin _ ⟨by omega, hb2⟩; omega
        -- what an operation takes, and going on behind it
        have prep : ∀ j o, j ∈ Region.ready .any l.toArray listed → j < m → l.toArray[j]? = some o → ∃ rest : List Nat,
            Sp ((rest.flatMap fun i => (As.getD i fun _ => []) (val i)) ++ (Ds.map markC ++ H)) (chM As val (pr.getD j []) L) w ∧ Fx X (envM ds val (pr.getD j []) s) a ∧
            ∀ (v : Value) (w' : World), Sp ((rest.flatMap fun i => (As.getD i fun _ => []) (val i)) ++ (Ds.map markC ++ H)) ((As.getD j fun _ => []) v ++ chM As val (pr.getD j []) L) w' → wpAnyIn (Fen X.r) 0 X.P .any l.toArray (Fin3 X H (only3 K)) fuel (listed.setIfInBounds j true) (a.put o.dst v) w' := by
          intro j o hj hjm ho
          obtain ⟨hju, o2, ho2, hedge⟩ := mem_ready.1 hj
          rw [ho] at ho2; cases ho2
          have hjl : j < l.length := by
            have := (Array.getElem?_eq_some_iff.1 ho).1
            simpa using this
          have hjf : listed.getD j false = false := by
            simp only [Array.getD_eq_getD_getElem?, Array.getElem?_eq_getElem, hsz, hjl, Option.getD_some] at hju ⊢
            exact hju
          obtain ⟨hp1, hp2, hp3⟩ := hpr j hjm
          have hps : ∀ k ∈ pr.getD j [], k ∈ lst m listed := fun k hk => by
            obtain ⟨g1, g2⟩ := hp1 k hk
            exact lst_mem.2 ⟨g2, rch_listed hcl hj (reachL_spec k g1)⟩
          have hd := hdst j o hjm ho
          obtain ⟨hdlt, hdne⟩ := hdn j hjm
          -- the chunks that the operation takes, and the rest
          have hperm : (lst m listed).Perm (pr.getD j [] ++ (lst m listed).filter fun k => !(pr.getD j []).contains k) := by
            refine (List.perm_ext_iff_of_nodup lst_nodup ?_).2 fun k => ?_
            · refine List.nodup_append.2 ⟨hp2, lst_nodup.filter _, fun x hx y hy e => ?_⟩
              subst e
              have h11 := (List.mem_filter.1 hy).2
              have h12 : (pr.getD j []).contains x = true := List.contains_iff_mem.2 hx
              rw [h12] at h11
              cases h11
            · constructor
              · intro hk
                by_cases hkp : k ∈ pr.getD j []
                · exact List.mem_append_left _ hkp
                · exact List.mem_append_right _ (List.mem_filter.2 ⟨hk, by simpa using hkp⟩)
              · intro hk
                rcases List.mem_append.1 hk with hk | hk
                · exact hps k hk
                · exact (List.mem_filter.1 hk).1
          generalize hrest : (lst m listed).filter (fun k => !(pr.getD j []).contains k) = rest at hperm
          have hsp1 : Sp ((rest.flatMap fun i => (As.getD i fun _ => []) (val i)) ++ (Ds.map markC ++ H)) (chM As val (pr.getD j []) L) w := by
            refine SepL.perm hsp ?_
            unfold chM
            have e1 := ch_perm (As := As) (val := val) hperm
            rw [List.flatMap_append] at e1
            refine (((e1.append_right L).append_right (Ds.map markC ++ H))).trans ?_
            simp only [List.append_assoc]
            exact List.Perm.append_left _ (List.perm_append_comm_assoc _ _ _)
          have hfxs : Fx X (envM ds val (pr.getD j []) s) a := ⟨hfx.size, fun k v hk => by
            rcases look_app _ _ _ _ hk with h | h
            · obtain ⟨i, hi, he⟩ := List.mem_map.1 (look_mem _ _ _ h)
              cases he
              exact hval i (lst_mem.1 (hps i hi)).1 (lst_mem.1 (hps i hi)).2
            · exact hfx.at_ k v h⟩
          refine ⟨rest, hsp1, hfxs, ?_⟩
          have go : ∀ (v : Value) (w' : World), Sp ((rest.flatMap fun i => (As.getD i fun _ => []) (val i)) ++ (Ds.map markC ++ H)) ((As.getD j fun _ => []) v ++ chM As val (pr.getD j []) L) w' → wpAnyIn (Fen X.r) 0 X.P .any l.toArray (Fin3 X H (only3 K)) fuel (listed.setIfInBounds j true) (a.put o.dst v) w' := by
            intro v w' hsp2
            rw [hd]
            have hjn : j ∉ lst m listed := fun h => by have := (lst_mem.1 h).2; rw [hjf] at this; cases this
            have hl2 : (lst m (listed.setIfInBounds j true)).Perm (j :: lst m listed) := by
              refine (List.perm_ext_iff_of_nodup lst_nodup (List.nodup_cons.2 ⟨hjn, lst_nodup⟩)).2 fun k => ?_
              rw [lst_mem, List.mem_cons, lst_mem]
              constructor
              · rintro ⟨g1, g2⟩
                rcases getD_set_false g2 with e | e
                · exact .inl e
                · exact .inr ⟨g1, e⟩
              · rintro (e | ⟨g1, g2⟩)
                · subst e
                  refine ⟨hjm, ?_⟩
                  simp [hsz, hjl]
                · exact ⟨g1, getD_set_true g2⟩
            refine ih (listed.setIfInBounds j true) (fun k => if k = j then v else val k) H Ds (a.put (some (ds.getD j 0)) v) w' (by simpa using hsz) (closed_set hcl hj) (fun t ht => ?_) ?_ ?_ ?_ ((put_defers _ _ _).trans hdf) ?_
            · rw [getD_set_ne false (by omega)]; exact hhi t ht
            · have := hl2.length_eq; rw [List.length_cons] at this; omega
            · refine (hfx.put v hdlt).sub fun k u hk => ?_
              rw [look_cons, if_neg (fun e => hdne k u hk e.symm)]; exact hk
            · intro i hi hli
              have hput : (a.put (some (ds.getD j 0)) v).tmps = a.tmps.setIfInBounds (ds.getD j 0) v := rfl
              rw [hput]
              by_cases e : i = j
              · subst e
                rw [if_pos rfl]
                have h13 : ds.getD i 0 < a.tmps.size := by rw [hfx.size]; exact hdlt
                generalize ds.getD i 0 = dd at h13 ⊢
                simp [h13]
              · rw [if_neg e]
                rcases getD_set_false hli with e2 | e2
                · exact absurd e2 e
                · rw [← hval i hi e2]
                  have hne : ds.getD j 0 ≠ ds.getD i 0 := fun h => e (hds j i hjm hi h).symm
                  generalize ds.getD j 0 = dd at hne ⊢
                  generalize ds.getD i 0 = de at hne ⊢
                  simp [Array.getElem?_setIfInBounds_ne hne]
            · refine SepL.perm hsp2 ?_
              unfold chM
              have e1 := ch_perm (As := As) (val := fun k => if k = j then v else val k) hl2
              rw [List.flatMap_cons, if_pos rfl] at e1
              have e2 : ((lst m listed).flatMap fun i => (As.getD i fun _ => []) (if i = j then v else val i)) = (lst m listed).flatMap fun i => (As.getD i fun _ => []) (val i) := by
                have key : ∀ l' : List Nat, (∀ i ∈ l', i ∈ lst m listed) → (l'.flatMap fun i => (As.getD i fun _ => []) (if i = j then v else val i)) = l'.flatMap fun i => (As.getD i fun _ => []) (val i) := by
                  intro l'
                  induction l' with
                  | nil => intro _; rfl
                  | cons i l' ihl =>
                    intro hl'
                    rw [List.flatMap_cons, List.flatMap_cons, ihl fun q hq => hl' q (by simp [hq]), if_neg (fun e : i = j => hjn (e ▸ hl' i (by simp)))]
                exact key _ fun _ h => h
              rw [e2] at e1
              have e3 := ch_perm (As := As) (val := val) hperm
              rw [List.flatMap_append] at e3
              refine List.Perm.trans ?_ (((e1.trans (e3.append_left _)).append_right L).append_right (Ds.map markC ++ H)).symm
              simp only [List.append_assoc]
              exact List.Perm.append_left _ (List.Perm.append_left _ (List.perm_append_comm_assoc _ _ _))
          exact go
        by_cases hq : ∃ q ∈ qs, q < m ∧ q ∈ Region.ready .any l.toArray listed
        · -- an operation whose value does not depend on the world comes first
          obtain ⟨q, hqm, hqlt, hqr⟩ := hq
          obtain ⟨hqu, o, ho, hedge⟩ := mem_ready.1 hqr
          obtain ⟨rest, hsp1, hfxs, go⟩ := prep q o hqr hqlt ho
          obtain ⟨v, hg, hev, hcv⟩ := qstep q hqm o hqlt ho val _ _ hsp1
          have hfree := hqs q hqm
          rw [ho] at hfree
          simp only [List.all_eq_true, List.mem_range] at hfree
          refine wpAC_any _ _ _ _ (wpAC_first (C := fun _ => True) (oi := o) (v := v) ho (ndefs_get h1) (Region.noSelect_spec hns) (fun c a w ⟨_, _, _, _, _, _, he, _⟩ => (by cases he)) fuel listed a w trivial ?_ hqr (.inl ⟨guard_wantedX hfxs hg, fun w' _ => hev a.eval (fun x u hx => hfxs.eval hx) w' trivial⟩) (any_AC _ _ _ _ (go v w hcv)))
          intro j oj hoj hne hul hno
          have hjl : j < l.length := by
            have := (Array.getElem?_eq_some_iff.1 hoj).1
            simpa using this
          have h8 := hfree j hjl
          rw [hoj] at h8
          simp only [Bool.or_eq_true] at h8
          rcases h8 with ((h8 | h8) | h8) | h8
          · exact absurd (Nat.eq_of_beq_eq_true h8) hne
          · obtain ⟨o', e, ho', he, hb, heq⟩ := ons_spec (List.contains_iff_mem.1 h8)
            rw [hoj] at ho'; cases ho'
            exact absurd heq (hno e he hb)
          · have h14 := rch_listed hcl hqr (reachL_spec j (List.contains_iff_mem.1 h8))
            simp only [Array.getD_eq_getD_getElem?, Array.getElem?_eq_getElem, hsz, hjl, Option.getD_some] at h14 hul
            rw [h14] at hul
            cases hul
          · exact h8
        · refine ⟨fun hr => ?_, fun j hj => ?_⟩
          · obtain ⟨i0, -, -, hin⟩ := hleast
            rw [hr] at hin
            cases hin
          · obtain ⟨hju, o, ho, hedge⟩ := mem_ready.1 hj
            have hjl : j < l.length := by
              have := (Array.getElem?_eq_some_iff.1 ho).1
              simpa using this
            have hjm : j < m := by
              refine Classical.byContradiction fun hge => ?_
              obtain ⟨i0, hi0, hu0, hin0⟩ := hleast
              have h8 := h7 j hjl
              have h9 : Nat.blt j m = false := by
                cases hb : Nat.blt j m with
                | false => rfl
                | true => exact absurd (Nat.lt_of_succ_le (Nat.le_of_ble_eq_true hb)) hge
              rw [h9, Bool.false_or, List.all_eq_true] at h8
              have h10 := h8 i0 (by simpa using hi0)
              rw [Bool.or_eq_true] at h10
              rcases h10 with h10 | h10
              · exact hq ⟨i0, List.contains_iff_mem.1 h10, hi0, hin0⟩
              · have := rch_listed hcl hj (reachL_spec i0 (by simpa using h10))
                rw [hu0] at this; cases this
            have hndef : ndef o = true := ndefs_get h1 j o ho
            obtain ⟨rest, hsp1, hfxs, go⟩ := prep j o hj hjm ho
            unfold wpOpIn
            rw [ho]
            dsimp only
            rcases step j o hjm ho val _ _ hsp1 with ⟨hg, hop⟩ | ⟨hg, hsp2⟩
            · rw [if_pos (guard_wantedX hfxs hg)]
              refine (hop a.eval fun x u hx => hfxs.eval hx).wpIn hndef fun v L' w' hc hs => ?_
              exact go v w' (hc _ _ hs)
            · rw [if_neg (by rw [guard_wantedX hfxs hg]; exact Bool.false_ne_true)]
              exact ⟨fun _ _ => trivial, go undef w hsp2⟩
  intro H Ds a w ha hds' hw
  have hw1 : Sp (Ds.map markC ++ H) L { w with drawn := w.drawn + 1 } := SepL.same hw ⟨rfl, rfl, rfl, Nat.le_refl _, fun _ _ _ => rfl⟩
  have hf : ∀ k, (Array.replicate l.length false).getD k false = false := fun k => by
    simp only [Array.getD_eq_getD_getElem?, Array.getElem?_replicate]
    split <;> rfl
  have hl0 : lst m (Array.replicate l.length false) = [] := by
    refine List.eq_nil_iff_forall_not_mem.2 fun i hi => ?_
    have := (lst_mem.1 hi).2
    rw [hf] at this; cases this
  have h9 := main l.length (Array.replicate l.length false) (fun _ => undef) H Ds a _ (by simp) (fun k o e hk => by rw [hf] at hk; cases hk) (fun t _ => hf t) (by rw [hl0]; simp) ha (fun i _ hi => by rw [hf] at hi; cases hi) hds' (by rw [hl0]; exact hw1)
  refine wpIn_mono (wpIn_region_any hm (by simpa using h9)) ?_
  rintro e a' w' ⟨s', L', Ds', g1, g2, g3, rfl, g4⟩
  exact ⟨s', L', Ds', g1, g2, g3, g4⟩
/-! printing aids -/
theorem steps_nil {p : Nat → Oper → Prop} {ops : Array Oper} : ∀ (i : Nat) (o : Oper), i < 0 → ops[i]? = some o → p i o := fun i o h => by omega
theorem steps_cons {p : Nat → Oper → Prop} {ops : Array Oper} {n : Nat} {o' : Oper} (ho : ops[n]? = some o') (h2 : p n o') (h1 : ∀ (i : Nat) (o : Oper), i < n → ops[i]? = some o → p i o) : ∀ (i : Nat) (o : Oper), i < n + 1 → ops[i]? = some o → p i o := fun i o hi h => by
  by_cases e : i = n
  · subst e; rw [ho] at h; cases h; exact h2
  · exact h1 i o (by omega) h
theorem qs_nil {p : Nat → Oper → Prop} {ops : Array Oper} {m : Nat} : ∀ q ∈ ([] : List Nat), ∀ (o : Oper), q < m → ops[q]? = some o → p q o := fun q h => by cases h
theorem qs_cons {p : Nat → Oper → Prop} {ops : Array Oper} {m q' : Nat} {qs : List Nat} {o' : Oper} (ho : ops[q']? = some o') (h2 : p q' o') (h1 : ∀ q ∈ qs, ∀ (o : Oper), q < m → ops[q]? = some o → p q o) : ∀ q ∈ q' :: qs, ∀ (o : Oper), q < m → ops[q]? = some o → p q o := fun q hq o hm h => by
  rcases List.mem_cons.1 hq with e | hq
  · subst e; rw [ho] at h; cases h; exact h2
  · exact h1 q hq o hm h
/-! a step, with more facts opened on the way -/
def MS2 (P : Program) (ops : Array Oper) (s : Env) (L L0 : List Chunk) (o : Oper) (A : Value → List Chunk) : Prop := ∀ Z w, Sp Z L w → (guardE ops s o = some true ∧ ∀ ρ : Operand → Value, (∀ x u, evE s x = some u → ρ x = u) → OpAt P ρ o (fun u L' => Cv L' (A u ++ L0)) Z w) ∨ (guardE ops s o = some false ∧ Sp Z (A undef ++ L0) w)
section
variable {P : Program} {ops : Array Oper} {s : Env} {L L0 : List Chunk} {o : Oper} {A : Value → List Chunk}
theorem X_op {R : Value → List Chunk → Prop} (h : OpX P s L o R) (hg : guardE ops s o = some true) (k : ∀ u L', R u L' → Cv L' (A u ++ L0)) : MS2 P ops s L L0 o A := fun Z w hw => .inl ⟨hg, fun ρ hρ => by
  rcases h ρ hρ Z w hw with ⟨v, w', L', h1, h2, h3⟩ | ⟨w', L', h1, h2, h3⟩ | ⟨f, args, h1, h2⟩ | ⟨l, f, t, a, b, h1, h2⟩
  · exact .inl ⟨v, w', L', h1, h2, k _ _ h3⟩
  · exact .inr (.inl ⟨w', L', h1, h2, k _ _ h3⟩)
  · exact .inr (.inr (.inl ⟨f, args, h1, h2.mono fun e w' ⟨v, L', g1, g2, g3⟩ => ⟨v, L', g1, g2, k _ _ g3⟩⟩))
  · exact .inr (.inr (.inr ⟨l, f, t, a, b, h1, h2.mono fun e w' ⟨v, L', g1, g2, g3⟩ => ⟨v, L', g1, g2, k _ _ g3⟩⟩))⟩
theorem X_ev {v : Value} (h : Ev P s (fun _ => True) o v) (hg : guardE ops s o = some true) (k : Cv L (A v ++ L0)) : MS2 P ops s L L0 o A := X_op (op_ev h) hg fun u L' ⟨e1, e2⟩ => by subst e1 e2; exact k
theorem X_rd {v : Value} (h : Rd P s L o v) (hg : guardE ops s o = some true) (k : Cv L (A v ++ L0)) : MS2 P ops s L L0 o A := X_op (op_rd h) hg fun u L' ⟨e1, e2⟩ => by subst e1 e2; exact k
theorem X_no (hg : guardE ops s o = some false) (k : Cv L (A undef ++ L0)) : MS2 P ops s L L0 o A := fun Z w hw => .inr ⟨hg, k _ _ hw⟩
end
/-! parts of a value -/
def cl (u : Value) (k : Nat) : Value := u.cells.getD k undef
def tl (u : Value) (k : Nat) : Value := match u with | .tuple vs => vs.getD k undef | _ => undef
def pb (u : Value) : Nat := match u with | .pointer (some a) => a.block | _ => 0
def mb (u : Value) : Nat := match u with | .map (some m) => m | _ => 0
end Go.Proofs.Ytmbaennilhdieaa
