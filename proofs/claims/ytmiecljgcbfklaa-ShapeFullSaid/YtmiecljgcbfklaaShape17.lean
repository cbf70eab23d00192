/- Shapes: acts in a row, plain; a table beside rows that stay. -/
import Derived.Test.YtmiecljgcbfklaaShape16
namespace Go.Proofs.Ytmiecljgcbfklaa
open Go.RowKit

def stA (l : List ActD) : Nat → List ShD
  | 0 => [root]
  | i + 1 => match l[i]? with | some x => (doT (stA l i) x).1 | none => stA l i
def gotA (l : List ActD) (i : Nat) : Int := match l[i]? with | some x => (doT (stA l i) x).2.1 | none => 0
def gots (l : List ActD) (i : Nat) : List Int := (List.range i).map (gotA l)
theorem gots_len (l : List ActD) (i : Nat) : (gots l i).length = i := by simp [gots]
theorem gots_snoc {l : List ActD} {i : Nat} {x : ActD} (h : l[i]? = some x) : gots l (i + 1) = gots l i ++ [(doT (stA l i) x).2.1] := by
  simp [gots, List.range_succ, gotA, h]
theorem stA_succ {l : List ActD} {i : Nat} {x : ActD} (h : l[i]? = some x) : stA l (i + 1) = (doT (stA l i) x).1 := by simp [stA, h]
theorem stA_step (l : List ActD) (i : Nat) : stA l i <+: stA l (i + 1) := by
  unfold stA
  cases h : l[i]? with
  | none => cases i <;> exact List.prefix_refl _
  | some x => cases i <;> exact do_pre x
theorem stA_pre (l : List ActD) (i : Nat) : ∀ j, i ≤ j → stA l i <+: stA l j := by
  intro j hj
  induction j with
  | zero => rw [Nat.le_zero.1 hj]; exact List.prefix_refl _
  | succ j ih =>
    rcases Nat.eq_or_lt_of_le hj with rfl | h
    · exact List.prefix_refl _
    · exact (ih (by omega)).trans (stA_step l j)
def enI (z : Int) : List Value := [.int .i64 z]
theorem enI_len (z : Int) : (enI z).length = 1 := rfl
/-- a table made behind w0 that has no block of G -/
structure TabG (w0 w : World) (p : Nat) (T : List ShD) (G : Nat → Prop) : Prop where
  wf : WF T
  ext : Ext w0 w
  tab : ∃ b m, Tab w p b m T ∧ w0.heap.size ≤ p ∧ w0.heap.size ≤ b ∧ w0.heap.size ≤ m ∧ ∀ g, G g → g < w.heap.size ∧ ¬ OwnT p b m g
theorem TabG.n {w0 w : World} {p : Nat} {T : List ShD} {G : Nat → Prop} (h : TabG w0 w p T G) : TabN w0 w p T := by
  obtain ⟨h1, h2, b, m, h3, h4, h5, h6, -⟩ := h
  exact ⟨h1, h2, b, m, h3, h4, h5, h6⟩
theorem Tab.lts {w : World} {p b m : Nat} {T : List ShD} (h : Tab w p b m T) : p < w.heap.size ∧ b < w.heap.size ∧ m < w.heap.size := by
  obtain ⟨cap, cur, h1, h2, -, -, -, -, h3⟩ := h
  exact ⟨h1.lt, h2.lt, h3.lt⟩
theorem TabN.g {w0 w w' : World} {p : Nat} {T : List ShD} {G : Nat → Prop} (h : TabN w0 w p T) (hx : Ext w w') (hG : ∀ g, G g → w.heap.size ≤ g ∧ g < w'.heap.size) : TabG w0 w' p T G := by
  obtain ⟨h1, h2, b, m, h3, h4, h5, h6⟩ := h
  have hl := h3.lts
  refine ⟨h1, h2.trans hx, b, m, h3.ext hx, h4, h5, h6, fun g hg => ?_⟩
  obtain ⟨g1, g2⟩ := hG g hg
  refine ⟨g2, ?_⟩
  rintro (e | e | e) <;> omega
theorem TabG.more {w0 w w' : World} {p : Nat} {T : List ShD} {G : Nat → Prop} (h : TabG w0 w p T G) (hx : Ext w w') : TabG w0 w' p T G := by
  obtain ⟨h1, h2, b, m, h3, h4, h5, h6, h7⟩ := h
  exact ⟨h1, h2.trans hx, b, m, h3.ext hx, h4, h5, h6, fun g hg => ⟨Nat.lt_of_lt_of_le (h7 g hg).1 hx.size, (h7 g hg).2⟩⟩
theorem do_lawG {w0 w : World} {p : Nat} {T : List ShD} {G : Nat → Prop} (x : ActD) (h : TabG w0 w p T G) : Calls Try.prog 8 #[.pointer (some ⟨p, 0, none⟩), .agg (enA x).toArray] w fun e w' => e = .returned (.tuple #[.int .i64 (doT T x).2.1, .int .i64 (doT T x).2.2]) ∧ TabG w0 w' p (doT T x).1 G ∧ Rest w w' ∧ ∀ g, G g → w'.heap[g]? = w.heap[g]? := by
  obtain ⟨h1, h2, b, m, h3, h4, h5, h6, h7⟩ := h
  refine (do_any x w h3 h1).mono fun e w' hp => ?_
  obtain ⟨g1, g2, g3⟩ := TabN.step h2 h3 h4 h5 h6 hp
  obtain ⟨b', k1, k2, k3, k4, k5⟩ := hp
  have hb' : w0.heap.size ≤ b' := by
    rcases k5 with rfl | k5
    · exact h5
    · exact Nat.le_trans h2.size k5
  refine ⟨g1, ⟨k3, g2.ext, b', m, k2, h4, hb', h6, fun g hg => ⟨Nat.lt_of_lt_of_le (h7 g hg).1 k4.size, ?_⟩⟩, g3, fun g hg => k4.block g (h7 g hg).1 (h7 g hg).2⟩
  rintro (e | e | e)
  · exact (h7 g hg).2 (.inl e)
  · rcases k5 with k5 | k5
    · exact (h7 g hg).2 (.inr (.inl (e.trans k5)))
    · have := (h7 g hg).1; omega
  · exact (h7 g hg).2 (.inr (.inr e))
theorem Rest.own {α : Type} {w w' : World} (h : Rest w w') {w0 : World} {t : TypeId} {sz : Nat} {en : α → List Value} {v : Value} {xs : List α} (ho : Own w0 w t sz en v xs) (h1 : t ≠ 54) (h2 : t ≠ 37) : Own w0 w' t sz en v xs := by
  refine ⟨ho.1, ?_⟩
  rcases ho.2 with h3 | ⟨g, cap, cur, e, hg, hh, r⟩
  · exact .inl h3
  · exact .inr ⟨g, cap, cur, e, hg, (h.2 g cur t (0, 0) hh h1 h2).trans hh, r⟩
theorem Rest.sq {α : Type} {w w' : World} (h : Rest w w') {t : TypeId} {sz : Nat} {en : α → List Value} {A : Option Addr} {xs : List α} (hq : SqA w t sz en A xs) (h1 : t ≠ 54) (h2 : t ≠ 37) : SqA w' t sz en A xs :=
  ⟨hq.nn, fun h0 => by obtain ⟨cs, fz, hh⟩ := hq.tag h0; exact ⟨cs, fz, (h.2 _ _ _ _ hh h1 h2).trans hh⟩, fun {i x} hi j u hu => by
    obtain ⟨cs, fz, hh⟩ := hq.tag (pos_of_get hi)
    exact (World.cell?_of_block (a := ⟨bl A, of A + i * sz + j, none⟩) (h.2 _ _ _ _ hh h1 h2)).trans (hq.get hi j u hu)⟩
theorem own_bl {α : Type} {w0 w : World} {t : TypeId} {sz n c : Nat} {en : α → List Value} {A : Option Addr} {xs : List α} (h : Own w0 w t sz en (.slice A n c) xs) (h0 : 0 < xs.length) : w0.heap.size ≤ bl A ∧ bl A < w.heap.size := by
  rcases h.2 with ⟨e, h1⟩ | ⟨g, cap, cur, e, hg, hh, r⟩
  · omega
  · injection e with e1 e2 e3
    subst e1
    exact ⟨hg, lt_of_heap hh⟩
theorem take_snocS {xs : List ShD} {n : Nat} {x : ShD} (h : xs[n]? = some x) : xs.take (n + 1) = xs.take n ++ [x] := by
  rw [List.take_add_one, h]
  rfl
theorem WF.pre {T U : List ShD} (hw : WF U) (h : T <+: U) (h0 : 0 < T.length) : WF T := by
  refine ⟨Nat.le_trans h.length_le hw.size, (pre_get h h0).symm.trans hw.head, fun i x hx hi => ?_⟩
  have hlt : i < T.length := (List.getElem?_eq_some_iff.1 hx).1
  obtain ⟨u, y, h1, h2, h3, h4⟩ := hw.up i x ((pre_get h hlt).trans hx) hi
  exact ⟨u, y, h1, h2, (pre_get h (by omega)).symm.trans h3, h4⟩
theorem stA_pos (l : List ActD) (i : Nat) : 0 < (stA l i).length := Nat.lt_of_lt_of_le (Nat.one_pos : 0 < (stA l 0).length) (stA_pre l 0 i (Nat.zero_le _)).length_le
theorem again_no {l : List ActD} {U : List ShD} {i : Nat} {x : ActD} (hx : l[i]? = some x) (hw : WF U) (hp : stA l l.length <+: U) (hg : ¬ gotA l i = 0) : (doT U x).2.1 = gotA l i := by
  have hlt : i < l.length := (List.getElem?_eq_some_iff.1 hx).1
  have h1 : gotA l i = (doT (stA l i) x).2.1 := by simp [gotA, hx]
  rw [h1] at hg ⊢
  have h2 : (doT (stA l i) x).2.2 = 0 := by
    by_cases h : (doT (stA l i) x).2.2 = 0
    · exact h
    · exact absurd (do_zero x h) hg
  have h3 : (doT (stA l i) x).1 <+: U := by
    rw [← stA_succ hx]
    exact (stA_pre l (i + 1) l.length (by omega)).trans hp
  rw [do_again x (hw.pre ((stA_pre l i l.length (by omega)).trans hp) (stA_pos l i)) h2 h3 hw.size]
/-- a growing slice of another type leaves a table alone -/
theorem TabN.grow {α : Type} {w0 w1 w w' : World} {p : Nat} {T : List ShD} {t : TypeId} {sz : Nat} {en : α → List Value} {v : Value} {xs : List α} (h : TabN w0 w p T) (hx : Fr (fun q => v.ownBlock = some q) w w') (ho : Own w1 w t sz en v xs) (he : Ext w0 w') (h1 : t ≠ 54) (h2 : t ≠ 37) : TabN w0 w' p T := by
  obtain ⟨g1, g2, b, m, g3, g4, g5, g6⟩ := h
  have hn : ∀ q, OwnT p b m q → ¬ v.ownBlock = some q := by
    intro q hq e
    rcases ho.2 with ⟨rfl, -⟩ | ⟨g, cap, cur, rfl, hg, hh, r⟩
    · cases e
    · cases e
      exact g3.not hh h1 h2 hq
  exact ⟨g1, he, b, m, g3.fr hx (hn p (.inl rfl)) (hn b (.inr (.inl rfl))) (hn m (.inr (.inr rfl))), g4, g5, g6⟩
theorem SqA.same {α : Type} {w w' : World} {t : TypeId} {sz : Nat} {en : α → List Value} {A : Option Addr} {xs : List α} (h : SqA w t sz en A xs) (hx : 0 < xs.length → w'.heap[bl A]? = w.heap[bl A]?) : SqA w' t sz en A xs :=
  ⟨h.nn, fun h0 => by obtain ⟨cs, fz, hh⟩ := h.tag h0; exact ⟨cs, fz, (hx h0).trans hh⟩, fun {i x} hi j u hu => (World.cell?_of_block (a := ⟨bl A, of A + i * sz + j, none⟩) (hx (pos_of_get hi))).trans (h.get hi j u hu)⟩
section
variable {P : Program} {s : Env} {C : World → Prop} {d : Option Nat} {ty : TypeId} {pos : String} {af : Array Edge} {gd : Option (Nat × Bool)}
theorem ev_lt_f {t u : TypeId} {x y : Operand} {k : IntKind} {a b : Int} (hx : evE s x = some (.int k a)) (hy : evE s y = some (.int k b)) (h : ¬ a < b) : Ev P s C ⟨d, .binOp .lss t x y u, ty, pos, af, gd⟩ (.bool false) := by
  have := ev_lt (P := P) (C := C) (d := d) (ty := ty) (pos := pos) (af := af) (gd := gd) (t := t) (u := u) hx hy
  rwa [decide_eq_false h] at this
theorem ev_ge_f {t u : TypeId} {x y : Operand} {k : IntKind} {a b : Int} (hx : evE s x = some (.int k a)) (hy : evE s y = some (.int k b)) (h : ¬ b ≤ a) : Ev P s C ⟨d, .binOp .geq t x y u, ty, pos, af, gd⟩ (.bool false) := by
  have := ev_ge (P := P) (C := C) (d := d) (ty := ty) (pos := pos) (af := af) (gd := gd) (t := t) (u := u) hx hy
  rwa [decide_eq_false h] at this
theorem ev_ne_f {t u : TypeId} {x y : Operand} {k : IntKind} {a b : Int} (hx : evE s x = some (.int k a)) (hy : evE s y = some (.int k b)) (h : a = b) : Ev P s C ⟨d, .binOp .neq t x y u, ty, pos, af, gd⟩ (.bool false) := by
  have := ev_ne (P := P) (C := C) (d := d) (ty := ty) (pos := pos) (af := af) (gd := gd) (t := t) (u := u) hx hy
  rw [decide_eq_true h] at this
  exact this
theorem ev_min {t u : TypeId} {x y : Operand} {a b : Int} (hx : evE s x = some (.int .i64 a)) (hy : evE s y = some (.int .i64 b)) : Ev P s C ⟨d, .call ⟨.builtin .min, #[x, y], #[t, u]⟩, ty, pos, af, gd⟩ (.int .i64 (if b < a then b else a)) := fun ρ hρ w _ => by
  have := run_builtin (P := P) (d := d) (ty := ty) (pos := pos) (af := af) (gd := gd) (ρ := ρ) (b := .min) (xs := [x, y]) (ats := #[t, u]) (vs := [.int .i64 a, .int .i64 b]) (by simp [hρ x _ hx, hρ y _ hy]) w
  rw [this]
  rfl
theorem Q_case {n : Nat} {ops : Array Oper} {K : Env → Prop} (d : Nat) {g : Bool} {l : List Oper} (hl : look s d = some (.bool g)) (h1 : g = true → QuE P n ops C l K s) (h2 : g = false → QuE P n ops C l K s) : QuE P n ops C l K s := by
  cases g with
  | true => exact h1 rfl
  | false => exact h2 rfl
end
end Go.Proofs.Ytmiecljgcbfklaa
