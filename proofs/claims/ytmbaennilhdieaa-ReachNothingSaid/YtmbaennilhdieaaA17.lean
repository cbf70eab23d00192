/- Short forms: drawn regions with what each operation yields described once; runs of plain steps. Over any program. -/
import Derived.Test.YtmbaennilhdieaaA16
namespace Go.Proofs.Ytmbaennilhdieaa
open Go.RowKit

/-! drawn regions: what an operation yields -/
/-- a value of the form rel, with the chunks ch; Op opens the form -/
structure Asn where
  rel : Value → Prop
  ch : Value → List Chunk
  Op : (Value → Prop) → Prop
  hop : ∀ (K : Value → Prop) (u : Value), rel u → Op K → K u
def Asn.full (a : Asn) (u : Value) : List Chunk := pureC (a.rel u) :: a.ch u
/-- a known value -/
def aV (v : Value) : Asn := ⟨fun u => u = v, fun _ => [], fun K => K v, fun K u h k => h ▸ k⟩
/-- a slice -/
def aS (c : Value → Chunk) : Asn := ⟨fun u => ∃ A n c, u = .slice A n c, fun u => [c u], fun K => ∀ A n c, K (.slice A n c), fun K u ⟨A, n, c, h⟩ k => h ▸ k A n c⟩
/-- a value with one hidden parameter -/
def aX {ι : Type} (v : ι → Value) (ch : Value → List Chunk) : Asn := ⟨fun u => ∃ x, u = v x, ch, fun K => ∀ x, K (v x), fun K u ⟨x, h⟩ k => h ▸ k x⟩
/-- a struct with two slices, any other form: the parameters one by one -/
def aX2 {ι κ : Type} (v : ι → κ → Value) (ch : Value → List Chunk) : Asn := ⟨fun u => ∃ x y, u = v x y, ch, fun K => ∀ x y, K (v x y), fun K u ⟨x, y, h⟩ k => h ▸ k x y⟩
def aX3 {ι κ τ : Type} (v : ι → κ → τ → Value) (ch : Value → List Chunk) : Asn := ⟨fun u => ∃ x y z, u = v x y z, ch, fun K => ∀ x y z, K (v x y z), fun K u ⟨x, y, z, h⟩ k => h ▸ k x y z⟩
def aX6 {ι κ τ ι' κ' τ' : Type} (v : ι → κ → τ → ι' → κ' → τ' → Value) (ch : Value → List Chunk) : Asn := ⟨fun u => ∃ x y z x' y' z', u = v x y z x' y' z', ch, fun K => ∀ x y z x' y' z', K (v x y z x' y' z'), fun K u ⟨x, y, z, x', y', z', h⟩ k => h ▸ k x y z x' y' z'⟩
def forV (ds : List Nat) (As : List Asn) : List Nat → (Env → List Chunk → Prop) → Env → List Chunk → Prop
  | [], K, s, L => K s L
  | i :: r, K, s, L => (As.getD i (aV undef)).Op fun u => forV ds As r (fun s' L' => K ((ds.getD i 0, u) :: s') ((As.getD i (aV undef)).ch u ++ L')) s L
def fulls (As : List Asn) : List (Value → List Chunk) := As.map Asn.full
theorem fulls_get (As : List Asn) (i : Nat) (h : i < As.length) : (fulls As).getD i (fun _ => []) = (As.getD i (aV undef)).full := by
  simp [fulls, h]
section
variable {As : List Asn} {val : Nat → Value} {ds : List Nat} {L : List Chunk}
theorem chM_cons {i : Nat} {r : List Nat} (hi : i < As.length) : chM (fulls As) val (i :: r) L = pureC ((As.getD i (aV undef)).rel (val i)) :: ((As.getD i (aV undef)).ch (val i) ++ chM (fulls As) val r L) := by
  unfold chM
  rw [List.flatMap_cons, fulls_get _ _ hi, List.append_assoc]; rfl
theorem cv_dropF {L : List Chunk} : ∀ (cs : List Chunk), Cv (cs ++ L) L
  | [] => cv_refl _
  | _ :: cs => cv_tl.trans (cv_dropF cs)
def chO (As : List Asn) (val : Nat → Value) (ix : List Nat) (L : List Chunk) : List Chunk := match ix with
  | [] => L
  | i :: r => (As.getD i (aV undef)).ch (val i) ++ chO As val r L
theorem cv_open : ∀ (ix : List Nat), (∀ i ∈ ix, i < As.length) → Cv (chM (fulls As) val ix L) (chO As val ix L)
  | [], _ => cv_refl _
  | i :: r, h => by
    rw [chM_cons (h i (by simp))]
    exact cv_tl.trans (cv_app _ (cv_open r fun j hj => h j (by simp [hj])))
theorem cv_close : ∀ (ix : List Nat), (∀ i ∈ ix, i < As.length ∧ (As.getD i (aV undef)).rel (val i)) → Cv (chO As val ix L) (chM (fulls As) val ix L)
  | [], _ => cv_refl _
  | i :: r, h => by
    rw [chM_cons (h i (by simp)).1]
    exact (cv_app _ (cv_close r fun j hj => h j (by simp [hj]))).trans (cv_pure (h i (by simp)).2)
theorem rel_of {Z : List Chunk} {w : World} : ∀ (ix : List Nat), (∀ i ∈ ix, i < As.length) → Sp Z (chM (fulls As) val ix L) w → ∀ i ∈ ix, (As.getD i (aV undef)).rel (val i)
  | [], _, _, _, h => by cases h
  | i :: r, h, hw, j, hj => by
    rw [chM_cons (h i (by simp))] at hw
    rcases List.mem_cons.1 hj with e | hj
    · subst e; exact sp_pure hw 0 rfl
    · exact rel_of r (fun j hj => h j (by simp [hj])) ((cv_tl.trans (cv_dropF _)) _ _ hw) j hj
theorem forV_spec : ∀ (ix : List Nat) (K : Env → List Chunk → Prop) (s : Env), (∀ i ∈ ix, (As.getD i (aV undef)).rel (val i)) → forV ds As ix K s L → K (envM ds val ix s) (chO As val ix L)
  | [], _, _, _, h => h
  | i :: r, K, s, hr, h => forV_spec r (fun s' L' => K ((ds.getD i 0, val i) :: s') ((As.getD i (aV undef)).ch (val i) ++ L')) s (fun j hj => hr j (by simp [hj])) ((As.getD i (aV undef)).hop _ _ (hr i (by simp)) h)
variable {P : Program} {ops : Array Oper} {s : Env} {o : Oper} {A : Value → List Chunk}
theorem step_of {ix : List Nat} (hi : ∀ i ∈ ix, i < As.length) (h : forV ds As ix (fun s' L' => MS2 P ops s' L' L' o A) s L) : MS P ops (envM ds val ix s) (chM (fulls As) val ix L) o A := fun Z w hw => by
  have hr := rel_of ix hi hw
  have hc := cv_close (L := L) ix fun i h => ⟨hi i h, hr i h⟩
  rcases forV_spec ix _ s hr h Z w (cv_open ix hi _ _ hw) with ⟨h1, h2⟩ | ⟨h1, h2⟩
  · refine .inl ⟨h1, fun ρ hρ => ?_⟩
    rcases h2 ρ hρ with ⟨v, w', L', h1, h2, h3⟩ | ⟨w', L', h1, h2, h3⟩ | ⟨f, args, h1, h2⟩ | ⟨l, f, t, a, b, h1, h2⟩
    · exact .inl ⟨v, w', L', h1, h2, h3.trans (cv_app _ hc)⟩
    · exact .inr (.inl ⟨w', L', h1, h2, h3.trans (cv_app _ hc)⟩)
    · exact .inr (.inr (.inl ⟨f, args, h1, h2.mono fun e w' ⟨v, L', g1, g2, g3⟩ => ⟨v, L', g1, g2, g3.trans (cv_app _ hc)⟩⟩))
    · exact .inr (.inr (.inr ⟨l, f, t, a, b, h1, h2.mono fun e w' ⟨v, L', g1, g2, g3⟩ => ⟨v, L', g1, g2, g3.trans (cv_app _ hc)⟩⟩))
  · exact .inr ⟨h1, cv_app _ hc _ _ h2⟩
theorem qstep_of {ix : List Nat} (hi : ∀ i ∈ ix, i < As.length) (h : forV ds As ix (fun s' L' => QS2 P ops s' L' L' o A) s L) : QS P ops (envM ds val ix s) (chM (fulls As) val ix L) o A := fun Z w hw => by
  have hr := rel_of ix hi hw
  have hc := cv_close (L := L) ix fun i h => ⟨hi i h, hr i h⟩
  obtain ⟨v, h1, h2, h3⟩ := forV_spec ix _ s hr h Z w (cv_open ix hi _ _ hw)
  exact ⟨v, h1, h2, cv_app _ hc _ _ h3⟩
theorem fin_of {X : Cx} {K : K3} {fuel : Nat} {listed : Array Bool} {ix : List Nat} (hi : ∀ i ∈ ix, i < As.length) (h : forV ds As ix (fun s' L' => TkN X ops K fuel listed s' L') s L) : TkN X ops K fuel listed (envM ds val ix s) (chM (fulls As) val ix L) := fun H Ds a w ha hds hw =>
  forV_spec ix _ s (rel_of ix hi hw) h H Ds a w ha hds (cv_open ix hi _ _ hw)
end
/-- the first m operations, each shown once, whatever the order -/
theorem G_monoV {X : Cx} {K : K3} {s : Env} {L : List Chunk} {id : Nat} {l : List Oper} (hm : X.P.follows .mixedOrders = true) (m : Nat) (qs : List Nat) (ds : List Nat) (pr : List (List Nat)) (As : List Asn) (hok : okM l.toArray m qs ds pr s X.n = true) (hlen : Nat.beq As.length m = true)
    (qstep : ∀ q ∈ qs, ∀ (o : Oper), q < m → l.toArray[q]? = some o → forV ds As (pr.getD q []) (fun s' L' => QS2 X.P l.toArray s' L' L' o (As.getD q (aV undef)).full) s L)
    (step : ∀ (i : Nat) (o : Oper), i < m → l.toArray[i]? = some o → forV ds As (pr.getD i []) (fun s' L' => MS2 X.P l.toArray s' L' L' o (As.getD i (aV undef)).full) s L)
    (fin : forV ds As (List.range m) (fun s' L' => TkN X l.toArray K (l.length - m) (setAll (Array.replicate l.length false) (List.range m)) s' L') s L) : Wq X (.region id l.toArray true) K s L := by
  have hl : As.length = m := Nat.eq_of_beq_eq_true hlen
  have hpr : ∀ i, i < m → ∀ k ∈ pr.getD i [], k < As.length := fun i hi k hk => by
    unfold okM at hok
    simp only [Bool.and_eq_true, List.all_eq_true, List.mem_range] at hok
    have h6 := (hok.1.2 i hi).1.1.2 k hk
    have h7 := Nat.le_of_ble_eq_true h6.2
    omega
  refine G_monoR hm m qs ds pr (fulls As) hok (fun q hq o hqm ho val => ?_) (fun i o him ho val => ?_) fun val => ?_
  · rw [fulls_get _ _ (by omega)]
    exact qstep_of (hpr q hqm) (qstep q hq o hqm ho)
  · rw [fulls_get _ _ (by omega)]
    exact step_of (hpr i him) (step i o him ho)
  · exact fin_of (fun i hi => by rw [hl]; exact List.mem_range.1 hi) fin
/-- behind an operation: its value is of the form said -/
theorem cvp {a : Asn} {u : Value} {L L0 : List Chunk} (hp : a.rel u) (h : Cv L (a.ch u ++ L0)) : Cv L (a.full u ++ L0) := h.trans (cv_pure hp)
theorem subT {s t : Env} (h : Sub s t := by first | exact sub_refl | (repeat (first | exact sub_nil | refine sub_cons rfl ?_))) : Sub s t := h
end Go.Proofs.Ytmbaennilhdieaa
