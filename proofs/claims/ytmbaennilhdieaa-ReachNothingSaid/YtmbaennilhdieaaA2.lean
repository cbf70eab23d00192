/- The walk over chunks: judgements, control, fixed regions. Over any program. -/
import Derived.Test.YtmbaennilhdieaaA1
import Derived.RangeFuncLeaves
import Derived.RangeFuncRecord
import Derived.OrdersIn
import Derived.RangeFuncKeeps
namespace Go.Proofs.Ytmbaennilhdieaa
open Go.RowKit

/-! chunks with a frame behind them -/
theorem fr_get {L Z : List Chunk} {i : Nat} {c : Chunk} (h : L[i]? = some c) : (L ++ Z)[i]? = some c := by
  rw [List.getElem?_append_left (List.getElem?_eq_some_iff.1 h).1]; exact h
theorem fr_set {L : List Chunk} (Z : List Chunk) {i : Nat} {c : Chunk} (h : L[i]? = some c) (d : Chunk) : (L ++ Z).set i d = L.set i d ++ Z := List.set_append_left _ _ (List.getElem?_eq_some_iff.1 h).1
def Sp (Z L : List Chunk) (w : World) : Prop := SepL (L ++ Z) w
/-- L says less than L' -/
def Cv (L' L : List Chunk) : Prop := ∀ Z w, Sp Z L' w → Sp Z L w
theorem cv_refl (L : List Chunk) : Cv L L := fun _ _ h => h
theorem Cv.trans {A B C : List Chunk} (h : Cv A B) (k : Cv B C) : Cv A C := fun Z w x => k Z w (h Z w x)
theorem cv_sel {L : List Chunk} (ix : List Nat) (k : Nat) (hk : okIx ix k = true) (hl : Nat.ble k L.length = true) : Cv L (selL ix k L) := fun Z w h => by
  have hl' : k ≤ L.length := Nat.le_of_ble_eq_true hl
  have h1 := SepL.sel h ix k hk (by simp; omega)
  have e : selL ix k (L ++ Z) = selL ix k L ++ Z := by
    unfold selL
    rw [List.drop_append_of_le_length hl', List.append_assoc]
    congr 1
    unfold okIx at hk
    simp only [Bool.and_eq_true, List.all_eq_true] at hk
    have h3 := hk.1
    clear h1 hk
    induction ix with
    | nil => rfl
    | cons i r ih =>
      have h2 : i + 1 ≤ k := Nat.le_of_ble_eq_true (h3 i (by simp))
      have h4 := ih fun j hj => h3 j (by simp [hj])
      simp only [List.filterMap_cons, List.getElem?_append_left (show i < L.length by omega), h4]
  unfold Sp
  rw [← e]
  exact h1

/-! frames of slots -/
structure Cx where
  P : Program
  n : Nat
  r : Option Nat
def Fen (r : Option Nat) : Fence := { Fence.wide with round := r }
def collD (D : Nat) : Deferred := { target := .collected D, args := #[] }
/-- the block in which a loop over a function gathers deferred calls: none -/
def markC (D : Nat) : Chunk where
  ok T S w := T D ∧ w.heap[D]? = some (.deferred (some []))
  loc := fun {T S w w'} h ⟨h1, h2⟩ => ⟨h1, (h.block D (by rcases Nat.lt_or_ge D w.heap.size with hl | hl; exact hl; rw [Array.getElem?_eq_none hl] at h2; cases h2) (.inl h1)).trans h2⟩
  mono := fun _ h => h
  ro := false
  dup := fun h => Bool.noConfusion h
structure Fx (X : Cx) (s : Env) (a : Act) : Prop where
  size : a.tmps.size = X.n
  at_ : ∀ k v, look s k = some v → a.tmps.getD k undef = v
theorem Fx.sub {X : Cx} {s t : Env} {a : Act} (h : Fx X s a) (hs : Sub s t) : Fx X t a := ⟨h.size, fun k v hk => h.at_ k v (look_sub hs hk)⟩
theorem Fx.fits {X : Cx} {s : Env} {a : Act} (h : Fx X s a) : Fits X.n s { a with defers := [] } := ⟨h.size, rfl, h.at_⟩
theorem Fx.eval {X : Cx} {s : Env} {a : Act} (h : Fx X s a) {x : Operand} {v : Value} (hx : evE s x = some v) : a.eval x = v := h.fits.eval hx
theorem Fx.put {X : Cx} {s : Env} {a : Act} (h : Fx X s a) {d : Nat} (v : Value) (hd : d < X.n) : Fx X ((d, v) :: s) (a.put (some d) v) :=
  have h1 := h.fits.put v hd
  ⟨h1.size, h1.at_⟩
abbrev K3 := Exit → Env → List Chunk → Prop
def Fin3 (X : Cx) (H : List Chunk) (K : K3) : Exit → Act → World → Prop := fun e a w => ∃ (s : Env) (L : List Chunk) (Ds : List Nat), Fx X s a ∧ a.defers = Ds.map collD ∧ Sp (Ds.map markC ++ H) L w ∧ K e s L
def Wq (X : Cx) (c : Code) (K : K3) (s : Env) (L : List Chunk) : Prop := ∀ (H : List Chunk) (Ds : List Nat) (a : Act) (w : World), Fx X s a → a.defers = Ds.map collD → Sp (Ds.map markC ++ H) L w → c.wpIn (Fen X.r) 0 X.P (Fin3 X H K) a w
def nx (N : Env → List Chunk → Prop) (K : K3) : K3
  | .normal, s, w => N s w
  | e, s, w => K e s w
def bk (id : Nat) (K : K3) : K3
  | .exit j, s, w => bif Nat.beq j id then K .normal s w else K (.exit j) s w
  | e, s, w => K e s w
section
variable {X : Cx} {K : K3} {s : Env} {L : List Chunk}
theorem G_sub {c : Code} {t : Env} {L' : List Chunk} (h : Wq X c K t L') (hs : Sub s t) (hl : Cv L L') : Wq X c K s L := fun H Ds a w ha hd hw => h H Ds a w (ha.sub hs) hd (hl _ _ hw)
theorem G_mono {c : Code} {K' : K3} (h : Wq X c K s L) (hk : ∀ e s L, K e s L → K' e s L) : Wq X c K' s L := fun H Ds a w ha hd hw => wpIn_mono (h H Ds a w ha hd hw) fun e a' w' ⟨s', L', Ds', h1, h2, h3, h4⟩ => ⟨s', L', Ds', h1, h2, h3, hk _ _ _ h4⟩
theorem G_seq {x y : Code} (h : Wq X x (nx (fun s L => Wq X y K s L) K) s L) : Wq X (.seq x y) K s L := by
  intro H Ds a w ha hd hw
  refine wpIn_seq (wpIn_mono (h H Ds a w ha hd hw) ?_)
  rintro e a' w' ⟨s', L', Ds', h1, h2, h3, h4⟩
  cases e with
  | normal => exact h4 H Ds' a' w' h1 h2 h3
  | _ => exact ⟨s', L', Ds', h1, h2, h3, h4⟩
theorem G_skip (h : K .normal s L) : Wq X .skip K s L := fun H Ds _ _ ha hd hw => wpIn_skip ⟨s, L, Ds, ha, hd, hw, h⟩
theorem G_ret (h : K .ret s L) : Wq X .ret K s L := fun H Ds _ _ ha hd hw => wpIn_ret ⟨s, L, Ds, ha, hd, hw, h⟩
theorem G_exit {id : Nat} (h : K (.exit id) s L) : Wq X (.exit id) K s L := fun H Ds _ _ ha hd hw => wpIn_exit ⟨s, L, Ds, ha, hd, hw, h⟩
theorem G_block {id : Nat} {c : Code} (h : Wq X c (bk id K) s L) : Wq X (.block id c) K s L := by
  intro H Ds a w ha hd hw
  refine wpIn_block (wpIn_mono (h H Ds a w ha hd hw) ?_)
  rintro e a' w' ⟨s', L', Ds', h1, h2, h3, h4⟩
  cases e with
  | exit j =>
    show if j = id then Fin3 X H K .normal a' w' else Fin3 X H K (.exit j) a' w'
    by_cases e : j = id
    · subst e
      rw [if_pos rfl]
      exact ⟨s', L', Ds', h1, h2, h3, by simpa [bk] using h4⟩
    · rw [if_neg e]
      have : Nat.beq j id = false := by cases hb : Nat.beq j id with
        | false => rfl
        | true => exact absurd (Nat.eq_of_beq_eq_true hb) e
      exact ⟨s', L', Ds', h1, h2, h3, by simpa [bk, this] using h4⟩
  | _ => exact ⟨s', L', Ds', h1, h2, h3, h4⟩
theorem G_cond {c : Operand} {x y : Code} {b : Bool} (hc : evE s c = some (.bool b)) (ht : b = true → Wq X x K s L) (hf : b = false → Wq X y K s L) : Wq X (.cond c x y) K s L :=
  fun H Ds a w ha hd hw => wpIn_cond_split (ha.eval hc) (fun h => ht h H Ds a w ha hd hw) (fun h => hf h H Ds a w ha hd hw)
theorem nx_n {N : Env → List Chunk → Prop} (h : N s L) : nx N K .normal s L := h
theorem nx_e {N : Env → List Chunk → Prop} {i : Nat} (h : K (.exit i) s L) : nx N K (.exit i) s L := h
theorem nx_r {N : Env → List Chunk → Prop} (h : K .ret s L) : nx N K .ret s L := h
theorem bk_n {i : Nat} (h : K .normal s L) : bk i K .normal s L := h
theorem bk_r {i : Nat} (h : K .ret s L) : bk i K .ret s L := h
theorem bk_x {i : Nat} (h : K .normal s L) : bk i K (.exit i) s L := by simpa [bk] using h
/-- a loop: every round starts at a point i of the family of frames E and chunks M; the number in H goes down -/
theorem G_loop {c : Code} {ι : Type} (E : ι → Env) (M : ι → List Chunk) (Hn : Nat → ι → Prop) (m0 : Nat) (i0 : ι) (h0 : Hn m0 i0) (hs : Sub s (E i0)) (hl : Cv L (M i0))
    (round : ∀ m i, Hn m i → Wq X c (nx (fun s' L' => ∃ m' i', m' < m ∧ Hn m' i' ∧ Sub s' (E i') ∧ Cv L' (M i')) K) (E i) (M i)) : Wq X (.loop c) K s L := by
  intro H Ds a w ha hd hw
  let I : Nat → Act → World → Prop := fun k a w => ∃ (i : ι) (Ds : List Nat), Hn k i ∧ Fx X (E i) a ∧ a.defers = Ds.map collD ∧ Sp (Ds.map markC ++ H) (M i) w
  refine wpIn_loop (fun a w => ∃ k, I k a w) (fun a w => leastOf fun k => I k a w) ⟨m0, i0, Ds, h0, ha.sub hs, hd, hl _ _ hw⟩ ?_
  intro a w hI
  obtain ⟨i, Ds, g1, g2, g3, g4⟩ := (leastOf_spec hI).1
  refine wpIn_mono (round _ i g1 H Ds a w g2 g3 g4) ?_
  rintro e a' w' ⟨s', L', Ds', h1, h2, h3, h4⟩
  cases e with
  | normal =>
    obtain ⟨m', i', q1, q2, q3, q4⟩ := h4
    have hI' : I m' a' w' := ⟨i', Ds', q2, h1.sub q3, h2, q4 _ _ h3⟩
    exact ⟨⟨m', hI'⟩, Nat.lt_of_le_of_lt ((leastOf_spec ⟨m', hI'⟩).2 m' hI') q1⟩
  | _ => exact ⟨s', L', Ds', h1, h2, h3, h4⟩
end

/-! operations -/
/-- an operation, run where s and L are known, ends in R -/
def OpX (P : Program) (s : Env) (L : List Chunk) (o : Oper) (R : Value → List Chunk → Prop) : Prop :=
  ∀ ρ : Operand → Value, (∀ x u, evE s x = some u → ρ x = u) → ∀ Z w, Sp Z L w →
    (∃ v w' L', (execOp ρ o).run P w = .ok (.value v) w' ∧ Sp Z L' w' ∧ R v L') ∨
    (∃ w' L', (execOp ρ o).run P w = .ok .skip w' ∧ Sp Z L' w' ∧ R undef L') ∨
    (∃ f args, (execOp ρ o).run P w = .ok (.enter f args) w ∧ Calls P f args w fun e w' => ∃ v L', e = .returned v ∧ Sp Z L' w' ∧ R v L') ∨
    (∃ l f tmps assign body, (execOp ρ o).run P w = .ok (.round l f tmps assign body) w ∧ RoundIn Fence.wide 0 P l f tmps assign body w fun e w' => ∃ v L', e = .returned v ∧ Sp Z L' w' ∧ R v L')
def ndef (o : Oper) : Bool := match o.op with | .defer _ => false | _ => true
def putE (d : Option Nat) (v : Value) (s : Env) : Env := match d with | some d => (d, v) :: s | none => s
def dstOk (n : Nat) : Option Nat → Bool
  | some d => Nat.ble (d + 1) n
  | none => true
theorem Fx.putE {X : Cx} {s : Env} {a : Act} (h : Fx X s a) {d : Option Nat} (v : Value) (hd : dstOk X.n d = true) : Fx X (putE d v s) (a.put d v) := by
  cases d with
  | none => exact h
  | some d => exact h.put v (Nat.le_of_ble_eq_true hd)
theorem put_defers (a : Act) (d : Option Nat) (v : Value) : (a.put d v).defers = a.defers := by cases d <;> rfl
/-- one operation inside the fence -/
theorem OpX.wpIn {X : Cx} {s : Env} {L : List Chunk} {o : Oper} {R : Value → List Chunk → Prop} (h : OpX X.P s L o R) (hn : ndef o = true) {Z : List Chunk} {a : Act} {w : World} (ha : Fx X s a) (hw : Sp Z L w)
    {K : Act → World → Prop} {Q : Exit → Act → World → Prop} (hK : ∀ v L' w', R v L' → Sp Z L' w' → K (a.put o.dst v) w') : o.wpIn (Fen X.r) 0 X.P a w K Q := by
  refine ⟨fun _ _ => trivial, ?_⟩
  have e : o.semAt (Fen X.r).round a.eval = execOp a.eval o := Oper.semAt_eq _ _ _ fun c hc => by unfold ndef at hn; rw [hc] at hn; cases hn
  rw [e]
  rcases h a.eval (fun x u hx => ha.eval hx) _ w hw with ⟨v, w', L', h1, h2, h3⟩ | ⟨w', L', h1, h2, h3⟩ | ⟨f, args, h1, h2⟩ | ⟨l, f, tmps, assign, body, h1, h2⟩
  · rw [h1]; exact hK _ _ _ h3 h2
  · rw [h1]; exact hK _ _ _ h3 h2
  · rw [h1]
    refine ⟨(by intro h; cases h), ?_⟩
    have h3 : CallsIn (Fen X.r) (0 - 1) X.P f args w _ := callsIn_wide.2 h2
    refine h3.mono ?_
    rintro e w' ⟨v, L', rfl, h4, h5⟩
    exact hK _ _ _ h5 h4
  · rw [h1]
    refine ⟨(by intro h; cases h), ?_⟩
    have h3 : RoundIn (Fen X.r) (0 - 1) X.P l f tmps assign body w _ := h2
    refine h3.mono ?_
    rintro e w' ⟨v, L', rfl, h4, h5⟩
    exact hK _ _ _ h5 h4

def RunG (X : Cx) (ops : Array Oper) (l : List Oper) (K : K3) (s : Env) (L : List Chunk) : Prop := ∀ (H : List Chunk) (Ds : List Nat) (a : Act) (w : World), Fx X s a → a.defers = Ds.map collD → Sp (Ds.map markC ++ H) L w → wpListIn (Fen X.r) 0 X.P ops (Fin3 X H K) l a w
theorem guard_wantedX {X : Cx} {ops : Array Oper} {s : Env} {a : Act} {o : Oper} {b : Bool} (ha : Fx X s a) (h : guardE ops s o = some b) : Region.wanted o (yielded ops a.tmps) = b := guard_wanted (a := { a with defers := [] }) ha.fits h
section
variable {X : Cx} {ops : Array Oper} {K : K3} {s : Env} {L : List Chunk} {o : Oper} {rest : List Oper} {d : Nat} {op : Op} {ty : TypeId} {pos : String} {af : Array Edge} {gd : Option (Nat × Bool)}
theorem G_region {id : Nat} {l : List Oper} (h : RunG X l.toArray l K s L) : Wq X (.region id l.toArray false) K s L := fun H Ds a w ha hd hw => wpIn_region_lit (h H Ds a w ha hd hw)
theorem G_nil (h : K .normal s L) : RunG X ops [] K s L := fun H Ds _ _ ha hd hw => wpListIn_nil ⟨s, L, Ds, ha, hd, hw, h⟩
theorem R3_sub {t : Env} {L' : List Chunk} {l : List Oper} (h : RunG X ops l K t L') (hs : Sub s t) (hl : Cv L L') : RunG X ops l K s L := fun H Ds a w ha hd hw => h H Ds a w (ha.sub hs) hd (hl _ _ hw)
theorem G_op {R : Value → List Chunk → Prop} (h : OpX X.P s L o R) (hn : ndef o = true) (hg : guardE ops s o = some true) (hd : dstOk X.n o.dst = true) (k : ∀ v L', R v L' → RunG X ops rest K (putE o.dst v s) L') : RunG X ops (o :: rest) K s L := by
  intro H Ds a w ha hds hw
  refine wpListIn_step fun K' hK => ?_
  rw [if_pos (guard_wantedX ha hg)]
  exact h.wpIn hn ha hw fun v L' w' h1 h2 => hK _ _ (k v L' h1 H Ds _ _ (ha.putE v hd) ((put_defers _ _ _).trans hds) h2)
/-- the same, where it is not wanted -/
theorem G_no (hg : guardE ops s ⟨some d, op, ty, pos, af, gd⟩ = some false) (hd : Nat.ble (d + 1) X.n = true) (k : RunG X ops rest K ((d, undef) :: s) L) : RunG X ops (⟨some d, op, ty, pos, af, gd⟩ :: rest) K s L := by
  intro H Ds a w ha hds hw
  refine wpListIn_step fun K' hK => ?_
  rw [if_neg (by rw [guard_wantedX ha hg]; exact Bool.false_ne_true)]
  exact ⟨fun _ _ => trivial, hK _ _ (k H Ds _ _ (ha.put undef (Nat.le_of_ble_eq_true hd)) hds hw)⟩
theorem op_ev {P : Program} {v : Value} (h : Ev P s (fun _ => True) o v) : OpX P s L o fun u L' => u = v ∧ L' = L := fun ρ hρ Z w hw => .inl ⟨v, w, L, h ρ hρ w trivial, hw, rfl, rfl⟩
/-- an operation whose value does not depend on the world -/
theorem G_ev {v : Value} (h : Ev X.P s (fun _ => True) ⟨some d, op, ty, pos, af, gd⟩ v) (hn : ndef ⟨some d, op, ty, pos, af, gd⟩ = true) (hg : guardE ops s ⟨some d, op, ty, pos, af, gd⟩ = some true) (hd : Nat.ble (d + 1) X.n = true) (k : RunG X ops rest K ((d, v) :: s) L) : RunG X ops (⟨some d, op, ty, pos, af, gd⟩ :: rest) K s L :=
  G_op (op_ev h) hn hg hd fun _ _ ⟨e1, e2⟩ => by subst e1 e2; exact k
/-- an operation that reads -/
def Rd (P : Program) (s : Env) (L : List Chunk) (o : Oper) (v : Value) : Prop := ∀ Z w, Sp Z L w → Ev P s (· = w) o v
theorem op_rd {P : Program} {v : Value} (h : Rd P s L o v) : OpX P s L o fun u L' => u = v ∧ L' = L := fun ρ hρ Z w hw => .inl ⟨v, w, L, h Z w hw ρ hρ w rfl, hw, rfl, rfl⟩
theorem G_rd {v : Value} (h : Rd X.P s L ⟨some d, op, ty, pos, af, gd⟩ v) (hn : ndef ⟨some d, op, ty, pos, af, gd⟩ = true) (hg : guardE ops s ⟨some d, op, ty, pos, af, gd⟩ = some true) (hd : Nat.ble (d + 1) X.n = true) (k : RunG X ops rest K ((d, v) :: s) L) : RunG X ops (⟨some d, op, ty, pos, af, gd⟩ :: rest) K s L :=
  G_op (op_rd h) hn hg hd fun _ _ ⟨e1, e2⟩ => by subst e1 e2; exact k
theorem G_case (d : Nat) {g : Bool} {l : List Oper} (hl : look s d = some (.bool g)) (h1 : g = true → RunG X ops l K s L) (h2 : g = false → RunG X ops l K s L) : RunG X ops l K s L := by
  cases g with
  | true => exact h1 rfl
  | false => exact h2 rfl
/-- facts may be opened on the way -/
theorem G_cv {L' : List Chunk} {l : List Oper} (hl : Cv L L') (h : RunG X ops l K s L') : RunG X ops l K s L := R3_sub h sub_refl hl
def JoinG (s2 : Env) (L2 : List Chunk) : K3 := fun e s' L' => e = .normal ∧ Sub s' s2 ∧ Cv L' L2
theorem wpListIn_app {F : Fence} {m : Nat} {P : Program} {Q Q' : Exit → Act → World → Prop} : ∀ (l1 l2 : List Oper) (a : Act) (w : World), wpListIn F m P ops Q l1 a w → (∀ a w, Q .normal a w → wpListIn F m P ops Q' l2 a w) → (∀ e a w, e ≠ .normal → Q e a w → Q' e a w) → wpListIn F m P ops Q' (l1 ++ l2) a w
  | [], l2, a, w, h, h2, _ => h2 a w h
  | o :: r, l2, a, w, h, h2, h3 => by
    have hw : ∀ {K K' : Act → World → Prop}, (∀ a w, K a w → K' a w) → o.wpIn F m P a w K Q → o.wpIn F m P a w K' Q' := by
      intro K K' hK hh
      unfold Oper.wpIn at *
      refine ⟨hh.1, ?_⟩
      have hh := hh.2
      have lets : LetsOut Q → LetsOut Q' := fun ⟨a0, w0, hq⟩ => ⟨a0, w0, h3 _ _ _ (by simp) hq⟩
      generalize (o.semAt F.round a.eval).run P w = r at *
      cases r with
      | ok x w' =>
        cases x <;> simp only [Oper.uponIn] at hh ⊢ <;>
          first
            | exact hK _ _ hh
            | exact ⟨hh.1, CallsIn.mono hh.2 (fun e w'' he => by cases e <;> first | exact hK _ _ he | exact h3 _ _ _ (by simp) he | exact lets he)⟩
            | exact ⟨hh.1, RowsIn.mono hh.2 (fun _ _ he => hK _ _ he)⟩
            | exact ⟨hh.1, RoundIn.mono hh.2 (fun e w'' he => by cases e <;> first | exact hK _ _ he | exact h3 _ _ _ (by simp) he | exact lets he)⟩
      | halt x w' => cases x <;> simp only [Oper.uponIn] at hh ⊢ <;> first | exact h3 _ _ _ (by simp) hh | exact hh
    unfold wpListIn at h
    show wpListIn F m P ops Q' (o :: (r ++ l2)) a w
    unfold wpListIn
    split
    · rename_i hwt
      rw [if_pos hwt] at h
      exact hw (fun a w hh => wpListIn_app r l2 a w hh h2 h3) h
    · rename_i hwt
      rw [if_neg hwt] at h
      exact ⟨h.1, wpListIn_app r l2 _ _ h.2 h2 h3⟩
/-- a part of a region that ends in one slot (a pick): its two ways meet -/
theorem G_seg (k : Nat) (s2 : Env) (L2 : List Chunk) {l : List Oper} (h1 : RunG X ops (l.take k) (JoinG s2 L2) s L) (h2 : RunG X ops (l.drop k) K s2 L2) : RunG X ops l K s L := by
  intro H Ds a w ha hd hw
  rw [← List.take_append_drop k l]
  refine wpListIn_app _ _ a w (h1 H Ds a w ha hd hw) ?_ ?_
  · rintro a w ⟨s', L', Ds', g1, g2, g3, -, g4, g5⟩
    exact h2 H Ds' a w (g1.sub g4) g2 (g5 _ _ g3)
  · rintro e a w hne ⟨s', L', Ds', g1, g2, g3, g4, -⟩
    exact absurd g4 hne
theorem G_joined {s2 : Env} {L2 : List Chunk} (hs : Sub s s2) (hl : Cv L L2) : RunG X ops [] (JoinG s2 L2) s L := G_nil ⟨rfl, hs, hl⟩
end

/-! functions -/
/-- the call ends in R -/
def Okc (P : Program) (f : FuncId) (args : List Value) (L : List Chunk) (R : Value → List Chunk → Prop) : Prop := ∀ Z w, Sp Z L w → Calls P f args.toArray w fun e w' => ∃ v L', e = .returned v ∧ Sp Z L' w' ∧ R v L'
def EndG (X : Cx) (fn : Func) (R : Value → List Chunk → Prop) : K3
  | .normal, s, L | .ret, s, L => ∀ a, Fx X s a → ∃ v L2, (∀ Z w, Sp Z L w → (results fn a.tmps).run X.P w = .ok v w) ∧ Cv L L2 ∧ R v L2
  | _, _, _ => False
theorem leaves_marks {P : Program} {fn : Func} {tmps : Array Value} {R : Ending → World → Prop} {L : List Chunk} {Z : List Chunk} (hR : ∀ w, Sp Z L w → ∃ v, (results fn tmps).run P w = .ok v w ∧ R (.returned v) w) : ∀ (Ds : List Nat) (w : World), Sp (Ds.map markC ++ Z) L w → LeavesInM Fence.wide 0 P fn tmps R (Ds.map collD) .returning w
  | [], w, hw => hR w (by simpa using hw)
  | D :: Ds, w, hw => by
    have hg : (L ++ (markC D :: (Ds.map markC ++ Z)))[L.length]? = some (markC D) := by simp
    have hw' : SepL (L ++ (markC D :: (Ds.map markC ++ Z))) w := hw
    obtain ⟨T, S, hT, hk⟩ := hw'.get hg
    refine ⟨by simp, .inl ⟨D, _, rfl, run_takeDeferred hk, leaves_marks hR Ds _ ?_⟩⟩
    have h1 : SepL ((L ++ (markC D :: (Ds.map markC ++ Z))).set L.length ⟨fun _ _ _ => True, fun _ h => h, fun _ h => h, true, fun _ _ _ _ h => h⟩) (w.putObj D (.deferred none)) := by
      refine hw'.upd hg fun T S h2 h3 _ _ => ?_
      have hx := grownBy_putObj' w D (.deferred none)
      refine ⟨⟨hx.os, hx.tape, hx.output, hx.size, fun q hq hn => hx.block q hq fun e => hn ?_⟩, fun _ => False, fun _ h => h.elim, fun _ h => h.elim, trivial⟩
      cases e; exact h2.1
    refine SepL.pick h1 (fun j => if j < L.length then j else j + 1) ?_ ?_
    · intro j c hj
      by_cases hlt : j < L.length
      · simp only [hlt, if_true]
        rw [List.getElem?_append_left hlt] at hj
        rw [List.getElem?_set_ne (by omega), List.getElem?_append_left hlt]
        exact hj
      · simp only [hlt, if_false]
        rw [List.getElem?_append_right (by omega)] at hj
        rw [List.getElem?_set_ne (by omega), List.getElem?_append_right (by omega), show j + 1 - L.length = (j - L.length) + 1 by omega, List.getElem?_cons_succ]
        exact hj
    · intro i j _ _ e
      split at e <;> split at e <;> omega
theorem ok_E {P : Program} {fn : Func} {R : Value → List Chunk → Prop} {f : FuncId} {c : Code} {args : List Value} {L : List Chunk} (hf : P.funcs[f]? = some fn) (hb : fn.body = some c) (hn : Nat.ble args.length fn.ntmps = true)
    (h : Wq ⟨P, fn.ntmps, none⟩ c (EndG ⟨P, fn.ntmps, none⟩ fn R) (envOf args 0) L) : Okc P f args L R := by
  intro Z w hw
  refine callsIn_wide.1 (callsIn_of_wp_marks (n := 0) hf hb trivial ?_ rfl)
  refine wpIn_mono (h Z [] _ w ⟨?_, ?_⟩ rfl hw) ?_
  · have := Nat.le_of_ble_eq_true hn
    simp; omega
  · intro k v hk
    obtain ⟨-, h2⟩ := look_envOf args 0 k v hk
    have hlt : k < args.length := by simpa using (List.getElem?_eq_some_iff.1 h2).1
    rw [Nat.sub_zero] at h2
    have h3 := (List.getElem?_eq_some_iff.1 h2).2
    simp [Array.getElem?_append, hlt, h3]
  · rintro e a' w' ⟨s', L', Ds', h1, h2, h3, h4⟩
    have key : (∃ v L2, (∀ Z w, Sp Z L' w → (results fn a'.tmps).run P w = .ok v w) ∧ Cv L' L2 ∧ R v L2) → LeavesInM Fence.wide 0 P fn a'.tmps (fun e w' => ∃ v L', e = .returned v ∧ Sp Z L' w' ∧ R v L') a'.defers .returning w' := by
      rintro ⟨v, L2, g1, g2, g3⟩
      rw [h2]
      exact leaves_marks (Z := Z) (L := L') (fun w hw => ⟨v, g1 _ w hw, v, L2, rfl, g2 _ _ hw, g3⟩) Ds' w' h3
    cases e with
    | normal => exact key (h4 a' h1)
    | ret => exact key (h4 a' h1)
    | _ => exact h4.elim
end Go.Proofs.Ytmbaennilhdieaa
