/- The walk over chunks: how data lie in memory; what operations do with them. Over any program. -/
import Derived.Test.YtmbaennilhdieaaA2
namespace Go.Proofs.Ytmbaennilhdieaa
open Go.RowKit

/-- how a datum lies in cells; deep parts lie in blocks of S -/
structure Rep (α : Type) where
  sz : Nat
  rel : (Nat → Prop) → World → List Value → α → Prop
  loc : ∀ {S : Nat → Prop} {w w' : World} {vs : List Value} {x : α}, Agr S w w' → rel S w vs x → rel S w' vs x
  mono : ∀ {S S' : Nat → Prop} {w : World} {vs : List Value} {x : α}, (∀ q, S q → S' q) → rel S w vs x → rel S' w vs x
  len : ∀ {S : Nat → Prop} {w : World} {vs : List Value} {x : α}, rel S w vs x → vs.length = sz
  one : ∀ {S : Nat → Prop} {w : World} {vs : List Value} {x : α}, rel S w vs x → vs.all (·.oneCell') = true
def Rep.flat {α : Type} (sz : Nat) (en : α → List Value) (h1 : ∀ x, (en x).length = sz) (h2 : ∀ x, (en x).all (·.oneCell') = true) : Rep α where
  sz := sz
  rel _ _ vs x := vs = en x
  loc := fun _ h => h
  mono := fun _ h => h
  len := fun h => h ▸ h1 _
  one := fun h => h ▸ h2 _
def rInt (k : IntKind) : Rep Int := .flat 1 (fun x => [.int k x]) (fun _ => rfl) (fun _ => rfl)
def rBool : Rep Bool := .flat 1 (fun x => [.bool x]) (fun _ => rfl) (fun _ => rfl)
def rStr : Rep ByteArray := .flat 1 (fun x => [.string x]) (fun _ => rfl) (fun _ => rfl)
inductive All2 {α β : Type} (R : α → β → Prop) : List α → List β → Prop
  | nil : All2 R [] []
  | cons {a b l m} : R a b → All2 R l m → All2 R (a :: l) (b :: m)
theorem All2.length {α β : Type} {R : α → β → Prop} {l : List α} {m : List β} (h : All2 R l m) : l.length = m.length := by induction h with
  | nil => rfl
  | cons _ _ ih => simp [ih]
theorem All2.imp {α β : Type} {R R' : α → β → Prop} {l : List α} {m : List β} (h : All2 R l m) (hr : ∀ a b, R a b → R' a b) : All2 R' l m := by induction h with
  | nil => exact .nil
  | cons h1 _ ih => exact .cons (hr _ _ h1) ih
theorem All2.get {α β : Type} {R : α → β → Prop} {l : List α} {m : List β} (h : All2 R l m) {i : Nat} {b : β} (hi : m[i]? = some b) : ∃ a, l[i]? = some a ∧ R a b := by
  induction h generalizing i with
  | nil => simp at hi
  | cons h1 _ ih =>
    cases i with
    | zero => simp only [List.getElem?_cons_zero, Option.some.injEq] at hi ⊢; subst hi; exact ⟨_, rfl, h1⟩
    | succ i => simp only [List.getElem?_cons_succ] at hi ⊢; exact ih hi
theorem All2.append {α β : Type} {R : α → β → Prop} {l l' : List α} {m m' : List β} (h : All2 R l m) (h' : All2 R l' m') : All2 R (l ++ l') (m ++ m') := by induction h with
  | nil => exact h'
  | cons h1 _ ih => exact .cons h1 ih
theorem All2.drop {α β : Type} {R : α → β → Prop} {l : List α} {m : List β} (h : All2 R l m) : ∀ k, All2 R (l.drop k) (m.drop k) := by
  induction h with
  | nil => intro k; simp; exact .nil
  | cons h1 h2 ih => intro k; cases k with
    | zero => exact .cons h1 h2
    | succ k => exact ih k
theorem All2.take {α β : Type} {R : α → β → Prop} {l : List α} {m : List β} (h : All2 R l m) : ∀ k, All2 R (l.take k) (m.take k) := by
  induction h with
  | nil => intro k; simp; exact .nil
  | cons h1 h2 ih => intro k; cases k with
    | zero => exact .nil
    | succ k => exact .cons h1 (ih k)
theorem All2.set {α β : Type} {R : α → β → Prop} {l : List α} {m : List β} (h : All2 R l m) {a : α} {b : β} (hab : R a b) : ∀ k, All2 R (l.set k a) (m.set k b) := by
  induction h with
  | nil => intro k; exact .nil
  | cons h1 h2 ih => intro k; cases k with
    | zero => exact .cons hab h2
    | succ k => exact .cons h1 (ih k)
section
variable {α : Type} {R : Rep α}
theorem rows_len {S : Nat → Prop} {w : World} {vss : List (List Value)} {xs : List α} (h : All2 (R.rel S w) vss xs) : vss.flatten.length = xs.length * R.sz := by
  induction h with
  | nil => simp
  | cons h1 _ ih => rw [List.flatten_cons, List.length_append, ih, R.len h1, List.length_cons, Nat.add_mul]; omega
theorem rows_one {S : Nat → Prop} {w : World} {vss : List (List Value)} {xs : List α} (h : All2 (R.rel S w) vss xs) : vss.flatten.all (·.oneCell') = true := by
  induction h with
  | nil => rfl
  | cons h1 _ ih => rw [List.flatten_cons, List.all_append, R.one h1, ih]; rfl
theorem rows_get {S : Nat → Prop} {w : World} : ∀ {vss : List (List Value)} {xs : List α}, All2 (R.rel S w) vss xs → ∀ {i : Nat} {vs : List Value}, vss[i]? = some vs → ∀ {j : Nat} {u : Value}, vs[j]? = some u → vss.flatten[i * R.sz + j]? = some u
  | _, _, .nil, i, vs, h, _, _, _ => by simp at h
  | _, _, .cons (a := a) h1 h2, 0, vs, h, j, u, hu => by
    simp only [List.getElem?_cons_zero, Option.some.injEq] at h
    subst h
    rw [List.flatten_cons, Nat.zero_mul, Nat.zero_add, List.getElem?_append_left (List.getElem?_eq_some_iff.1 hu).1]
    exact hu
  | _, _, .cons (a := a) h1 h2, i + 1, vs, h, j, u, hu => by
    simp only [List.getElem?_cons_succ] at h
    have e : (i + 1) * R.sz + j = a.length + (i * R.sz + j) := by rw [R.len h1, Nat.add_mul]; omega
    rw [List.flatten_cons, e, List.getElem?_append_right (by omega), Nat.add_sub_cancel_left]
    exact rows_get h2 h hu
theorem rows_drop {S : Nat → Prop} {w : World} : ∀ {vss : List (List Value)} {xs : List α}, All2 (R.rel S w) vss xs → ∀ k, (vss.drop k).flatten = vss.flatten.drop (k * R.sz)
  | _, _, .nil, k => by simp
  | _, _, .cons h1 h2, 0 => by simp
  | _, _, .cons (a := a) h1 h2, k + 1 => by
    rw [List.drop_succ_cons, rows_drop h2 k, List.flatten_cons, show (k + 1) * R.sz = a.length + k * R.sz by rw [R.len h1, Nat.add_mul]; omega, ← List.drop_drop, List.drop_left]
/-- the slice v holds xs -/
def SlR (R : Rep α) (S : Nat → Prop) (w : World) (v : Value) (xs : List α) : Prop := ∃ A c, v = .slice A xs.length c ∧ xs.length ≤ c ∧ c ≤ 9223372036854775807 ∧
  (0 < xs.length → ∃ b o vss, A = some ⟨b, o, none⟩ ∧ S b ∧ b < w.heap.size ∧ All2 (R.rel S w) vss xs ∧ CellsAt w b o vss.flatten)
theorem SlR.loc {S : Nat → Prop} {w w' : World} {v : Value} {xs : List α} (h : SlR R S w v xs) (hx : Agr S w w') : SlR R S w' v xs := by
  obtain ⟨A, c, h1, h2, h3, h4⟩ := h
  refine ⟨A, c, h1, h2, h3, fun h0 => ?_⟩
  obtain ⟨b, o, vss, g1, g2, g3, g4, g5⟩ := h4 h0
  exact ⟨b, o, vss, g1, g2, Nat.lt_of_lt_of_le g3 hx.size, g4.imp fun _ _ => R.loc hx, g5.agr hx g2 g3⟩
theorem SlR.mono {S S' : Nat → Prop} {w : World} {v : Value} {xs : List α} (h : SlR R S w v xs) (hs : ∀ q, S q → S' q) : SlR R S' w v xs := by
  obtain ⟨A, c, h1, h2, h3, h4⟩ := h
  refine ⟨A, c, h1, h2, h3, fun h0 => ?_⟩
  obtain ⟨b, o, vss, g1, g2, g3, g4, g5⟩ := h4 h0
  exact ⟨b, o, vss, g1, hs _ g2, g3, g4.imp fun _ _ => R.mono hs, g5⟩
theorem SlR.one {S : Nat → Prop} {w : World} {v : Value} {xs : List α} (h : SlR R S w v xs) : v.oneCell' = true := by
  obtain ⟨A, c, rfl, -⟩ := h; rfl
theorem slR_nil (R : Rep α) (S : Nat → Prop) (w : World) : SlR R S w (.slice none 0 0) [] := ⟨none, 0, rfl, Nat.le_refl _, by omega, fun h => absurd h (by simp)⟩
end
def Rep.sl {α : Type} (R : Rep α) : Rep (List α) where
  sz := 1
  rel S w vs xs := ∃ v, vs = [v] ∧ SlR R S w v xs
  loc := fun h ⟨v, e, h1⟩ => ⟨v, e, h1.loc h⟩
  mono := fun h ⟨v, e, h1⟩ => ⟨v, e, h1.mono h⟩
  len := fun ⟨_, e, _⟩ => by rw [e]; rfl
  one := fun ⟨_, e, h⟩ => by rw [e]; simp [h.one]

/-! chunks -/
def roC {α : Type} (R : Rep α) (vs : List Value) (x : α) : Chunk where
  ok _ S w := R.rel S w vs x
  loc := fun h h1 => R.loc (h.mono fun _ => .inr) h1
  mono := fun h h1 => R.mono h h1
  ro := true
  dup := fun _ _ _ _ h => h
def slC {α : Type} (R : Rep α) (v : Value) (xs : List α) : Chunk where
  ok _ S w := SlR R S w v xs
  loc := fun h h1 => h1.loc (h.mono fun _ => .inr)
  mono := fun h h1 => h1.mono h
  ro := true
  dup := fun _ _ _ _ h => h
def boxC (b : Nat) (t : TypeId) (cs : List Value) : Chunk where
  ok T _ w := T b ∧ Blk w b t cs.toArray
  loc := fun h ⟨h1, h2⟩ => ⟨h1, h2.agr h (.inl h1)⟩
  mono := fun _ h => h
  ro := false
  dup := fun h => Bool.noConfusion h
theorem ownsRow_agr {X : Nat → Prop} {w w' : World} {e : TypeId} {sz : Nat} {v : Value} {n : Nat} {cs : List Value} (h : w.ownsRow 0 e sz v n cs) (hx : Agr X w w') (hv : ∀ q, v.ownBlock = some q → X q) : w'.ownsRow 0 e sz v n cs := by
  refine ⟨h.1, ?_⟩
  rcases h.2 with h3 | ⟨g, cap, cur, e1, hg, hh, r⟩
  · exact .inl h3
  · exact .inr ⟨g, cap, cur, e1, hg, Blk.agr (t := e) hh hx (hv g (by rw [e1]; rfl)), r⟩
/-- a slice of one's own -/
def ownC {α : Type} (R : Rep α) (e : TypeId) (v : Value) (xs : List α) : Chunk where
  ok T S w := ∃ vss, All2 (R.rel S w) vss xs ∧ ((w.ownsRow 0 e R.sz v xs.length vss.flatten ∧ ∀ q, v.ownBlock = some q → T q) ∨ (xs.length = 0 ∧ ∃ A, v = .slice A 0 0))
  loc := fun h ⟨vss, h1, h2⟩ => ⟨vss, h1.imp fun _ _ => R.loc (h.mono fun _ => .inr), h2.imp (fun ⟨h2, h3⟩ => ⟨ownsRow_agr h2 h fun q hq => .inl (h3 q hq), h3⟩) id⟩
  mono := fun h ⟨vss, h1, h2⟩ => ⟨vss, h1.imp fun _ _ => R.mono h, h2⟩
  ro := false
  dup := fun h => Bool.noConfusion h
/-- all that lay below w0 lies as it lay -/
def oldC (w0 : World) : Chunk where
  ok _ S w := Ext w0 w ∧ ∀ q, q < w0.heap.size → S q
  loc := fun h ⟨h1, h2⟩ => ⟨⟨h.os.trans h1.os, h.tape.trans h1.tape, h.output.trans h1.output, Nat.le_trans h1.size h.size, fun q hq => (h.block q (Nat.lt_of_lt_of_le hq h1.size) (.inr (h2 q hq))).trans (h1.block q hq)⟩, h2⟩
  mono := fun h ⟨h1, h2⟩ => ⟨h1, fun q hq => h q (h2 q hq)⟩
  ro := true
  dup := fun _ _ _ _ h => h
/-- the chunk c holds the slice v of xs -/
def Els {α : Type} (R : Rep α) (v : Value) (xs : List α) (c : Chunk) : Prop := ∀ T S w, c.ok T S w → ∃ A cap, v = .slice A xs.length cap ∧ xs.length ≤ cap ∧ cap ≤ 9223372036854775807 ∧
  (0 < xs.length → ∃ b o vss, A = some ⟨b, o, none⟩ ∧ All2 (R.rel S w) vss xs ∧ CellsAt w b o vss.flatten)
theorem els_sl {α : Type} {R : Rep α} {v : Value} {xs : List α} : Els R v xs (slC R v xs) := fun T S w ⟨A, c, h1, h2, h3, h4⟩ => ⟨A, c, h1, h2, h3, fun h0 => by
  obtain ⟨b, o, vss, g1, g2, g3, g4, g5⟩ := h4 h0
  exact ⟨b, o, vss, g1, g4, g5⟩⟩
theorem own_cells {w : World} {e : TypeId} {sz : Nat} {g n cap : Nat} {cur : Array Value} {cs : List Value} (h : w.heap[g]? = some (.cells cur e (0, 0))) (hc : cur.toList.take (n * sz) = cs) : CellsAt w g 0 cs := fun j u hj => by
  have hb : Blk w g e cur := h
  rw [Nat.zero_add, hb.cells, ← Array.getElem?_toList]
  rw [← hc, List.getElem?_take] at hj
  split at hj
  · exact hj
  · cases hj
theorem els_own {α : Type} {R : Rep α} {e : TypeId} {v : Value} {xs : List α} : Els R v xs (ownC R e v xs) := fun T S w ⟨vss, h1, h2⟩ => by
  rcases h2 with ⟨h2, -⟩ | ⟨h0, A, rfl⟩
  · rcases h2.2 with ⟨rfl, h0⟩ | ⟨g, cap, cur, rfl, g1, g2, g3, g4, g5, g6⟩
    · rw [h0]; exact ⟨none, 0, rfl, by omega, by omega, fun h => absurd h (by omega)⟩
    · exact ⟨_, cap, rfl, g3, by unfold maxLen at g4; omega, fun _ => ⟨g, 0, vss, rfl, h1, own_cells (cap := cap) g2 g6⟩⟩
  · exact ⟨A, 0, by rw [h0], by omega, by omega, fun h => absurd h (by omega)⟩
/-- slice chunks, by what they hold -/
theorem cv_frz {α : Type} {R : Rep α} {e : TypeId} {v : Value} {xs : List α} {L : List Chunk} (i : Nat) (hi : L[i]? = some (ownC R e v xs)) : Cv L (L.set i (slC R v xs)) := fun Z w h => by
  have h1 := SepL.frz h (fr_get hi) (d := slC R v xs) fun T S ⟨vss, h1, h2⟩ => by
    rcases h2 with ⟨h2, h3⟩ | ⟨h0, A, rfl⟩
    · rcases h2.2 with ⟨rfl, h0⟩ | ⟨g, cap, cur, rfl, g1, g2, g3, g4, g5, g6⟩
      · show SlR R _ w _ xs
        exact ⟨none, 0, by rw [h0], by omega, by omega, fun h => absurd h (by omega)⟩
      · exact ⟨_, cap, rfl, g3, by unfold maxLen at g4; omega, fun _ => ⟨g, 0, vss, rfl, .inr (h3 g rfl), Blk.lt (t := e) (cs := cur) g2, h1.imp fun _ _ => R.mono fun _ => .inl, own_cells (cap := cap) g2 g6⟩⟩
    · show SlR R _ w _ xs
      exact ⟨A, 0, by rw [h0], by omega, by omega, fun h => absurd h (by omega)⟩
  rw [fr_set Z hi] at h1
  exact h1
theorem cv_dup {L : List Chunk} (i : Nat) {c : Chunk} (hi : L[i]? = some c) (hc : c.ro = true) : Cv L (c :: L) := fun _ _ h => SepL.dup h (fr_get hi) hc
theorem cv_nil {α : Type} (R : Rep α) (e : TypeId) (L : List Chunk) : Cv L (ownC R e (.slice none 0 0) ([] : List α) :: L) := fun Z w h => SepL.fact0 h fun S => ⟨[], .nil, .inl ⟨World.ownsRow_nil w 0 e R.sz, fun _ h => by cases h⟩⟩
section
variable {P : Program} {s : Env} {L : List Chunk} {d : Option Nat} {ty : TypeId} {pos : String} {af : Array Edge} {gd : Option (Nat × Bool)}
/-! slices -/
theorem rd_len {α : Type} {R : Rep α} {t : TypeId} {x : Operand} {v : Value} {xs : List α} {c : Chunk} {e : TypeId} (i : Nat) (hi : L[i]? = some c) (he : Els R v xs c) (hx : evE s x = some v) (ht : P.underlying t = some (.slice e)) : Rd P s L ⟨d, .call ⟨.builtin .len, #[x], #[t]⟩, ty, pos, af, gd⟩ (.int .i64 (xs.length : Int)) := fun Z w hw => by
  obtain ⟨T, S, h⟩ := hw.get (fr_get hi)
  obtain ⟨A, cap, rfl, -⟩ := he _ _ _ h
  exact ev_len hx ht
def elemQ (v : Value) (k sz off : Nat) : Value := match v with
  | .slice (some ⟨b, o, none⟩) _ _ => .pointer (some ⟨b, o + k * sz + off, none⟩)
  | _ => undef
theorem rd_idx {α : Type} {R : Rep α} {t e sz : Nat} {x y : Operand} {v : Value} {xs : List α} {c : Chunk} {k : Int} (i : Nat) (hi : L[i]? = some c) (he : Els R v xs c) (hx : evE s x = some v) (hy : evE s y = some (.int .i64 k)) (ht : P.underlying t = some (.slice e)) (hs : sizeB P e sz = true) (h0 : 0 ≤ k) (h1 : k < xs.length) : Rd P s L ⟨d, .indexAddr t x y, ty, pos, af, gd⟩ (elemQ v k.toNat sz 0) := fun Z w hw => by
  obtain ⟨T, S, h⟩ := hw.get (fr_get hi)
  obtain ⟨A, cap, rfl, -, -, h4⟩ := he _ _ _ h
  obtain ⟨b, o, vss, rfl, -⟩ := h4 (by omega)
  exact ev_idx hx hy ht hs h0 h1
theorem rd_fa {α : Type} {R : Rep α} {t f sz off o' : Nat} {x : Operand} {v : Value} {xs : List α} {c : Chunk} {k : Nat} (i : Nat) (hi : L[i]? = some c) (he : Els R v xs c) (hx : evE s x = some (elemQ v k sz off)) (h1 : k < xs.length) (hr : ∀ b o w, (Instr.fieldAt t (.pointer (some ⟨b, o, none⟩)) f).run P w = .ok (.pointer (some ⟨b, o + o', none⟩)) w) : Rd P s L ⟨d, .fieldAddr t x f, ty, pos, af, gd⟩ (elemQ v k sz (off + o')) := fun Z w hw => by
  obtain ⟨T, S, h⟩ := hw.get (fr_get hi)
  obtain ⟨A, cap, rfl, -, -, h4⟩ := he _ _ _ h
  obtain ⟨b, o, vss, rfl, -⟩ := h4 (by omega)
  have h9 := ev_fa (C := (· = w)) (d := d) (ty := ty) (pos := pos) (af := af) (gd := gd) (o := o + k * sz + off) hx hr
  rw [Nat.add_assoc (o + k * sz)] at h9
  exact h9
theorem els_row {α : Type} {R : Rep α} {v : Value} {xs : List α} {c : Chunk} {Z : List Chunk} {w : World} {i : Nat} (hw : Sp Z L w) (hi : L[i]? = some c) (he : Els R v xs c) {k off : Nat} {x : α} (hx : xs[k]? = some x) : ∃ b o vs T S, c.ok T S w ∧ elemQ v k R.sz off = .pointer (some ⟨b, o + k * R.sz + off, none⟩) ∧ R.rel S w vs x ∧ CellsAt w b (o + k * R.sz) vs := by
  obtain ⟨T, S, h⟩ := hw.get (fr_get hi)
  obtain ⟨A, cap, rfl, -, -, h4⟩ := he _ _ _ h
  obtain ⟨b, o, vss, rfl, h5, h6⟩ := h4 (pos_of_get hx)
  obtain ⟨vs, h7, h8⟩ := h5.get hx
  exact ⟨b, o, vs, T, S, h, rfl, h8, fun j u hj => by have := h6 _ _ (rows_get h5 h7 hj); rw [Nat.add_assoc]; exact this⟩
/-- one cell of an element -/
theorem rd_elem1 {α : Type} {R : Rep α} {t : TypeId} {x : Operand} {v u : Value} {xs : List α} {c : Chunk} {k off : Nat} {y : α} (i : Nat) (hi : L[i]? = some c) (he : Els R v xs c) (hx : evE s x = some (elemQ v k R.sz off)) (hy : xs[k]? = some y) (hu : oneB P t = true) (hl : ∀ S w vs, R.rel S w vs y → vs[off]? = some u) : Rd P s L ⟨d, .load t x, ty, pos, af, gd⟩ u := fun Z w hw => by
  obtain ⟨b, o, vs, T, S, h1, h2, h3, h4⟩ := els_row (off := off) hw hi he hy
  rw [h2] at hx
  exact ev_load1 hx hu (here (p := fun w => w.cell? ⟨b, o + k * R.sz + off, none⟩ = some u) (h4 _ _ (hl _ _ _ h3)))
/-- cells of an element, flat -/
theorem rd_elemS {α : Type} {R : Rep α} {t : TypeId} {x : Operand} {v : Value} {us : List Value} {xs : List α} {c : Chunk} {k off : Nat} {y : α} (i : Nat) (hi : L[i]? = some c) (he : Els R v xs c) (hx : evE s x = some (elemQ v k R.sz off)) (hy : xs[k]? = some y) (hu : aggB P t us.length = true) (hl : ∀ S w vs, R.rel S w vs y → (vs.drop off).take us.length = us) : Rd P s L ⟨d, .load t x, ty, pos, af, gd⟩ (.agg us.toArray) := fun Z w hw => by
  obtain ⟨b, o, vs, T, S, h1, h2, h3, h4⟩ := els_row (off := off) hw hi he hy
  rw [h2] at hx
  have h5 := h4.part off us.length
  rw [hl _ _ _ h3] at h5
  exact ev_loadS hx (here (p := fun w => CellsAt w b (o + k * R.sz + off) us) h5) hu
/-- facts that lean on what nobody writes -/
theorem SepL.facts {L : List Chunk} {w : World} : ∀ (cs : List Chunk) {T : Nat → Nat → Prop} {S : Nat → Prop}, SepT L T S w → (∀ c ∈ cs, c.ok (fun _ => False) S w) → ∃ T', SepT (cs ++ L) T' S w
  | [], T, S, h, _ => ⟨T, h⟩
  | c :: cs, T, S, h, hc => by
    obtain ⟨T', h'⟩ := SepL.facts cs h fun d hd => hc d (by simp [hd])
    refine ⟨fun i => match i with | 0 => fun _ => False | i + 1 => T' i, ?_, ?_, ?_, ?_, h'.lts⟩
    · intro j e hj
      cases j with
      | zero => simp only [List.cons_append, List.getElem?_cons_zero, Option.some.injEq] at hj; subst hj; exact hc _ (by simp)
      | succ j => simp only [List.cons_append, List.getElem?_cons_succ] at hj; exact h'.ok hj
    · intro i j q hij h3 h4
      cases i with
      | zero => exact h3
      | succ i => cases j with
        | zero => exact h4
        | succ j => exact h'.apart (by omega) h3 h4
    · intro i q h3 h4
      cases i with
      | zero => exact h3
      | succ i => exact h'.ro h3 h4
    · intro i q h3
      cases i with
      | zero => exact h3.elim
      | succ i => exact h'.lt h3
/-- how the cells of a datum are opened: what they are, and what is known of the slices among them -/
def Opens {α : Type} (R : Rep α) (x : α) (Q : List Value → List Chunk → Prop) : Prop := ∀ S w vs, R.rel S w vs x → ∃ cs, Q vs cs ∧ ∀ c ∈ cs, c.ok (fun _ => False) S w
/-- a part of an element that holds slices -/
theorem op_elemA {α : Type} {R : Rep α} {t : TypeId} {x : Operand} {v : Value} {xs : List α} {c : Chunk} {k off m : Nat} {y : α} {Q : List Value → List Chunk → Prop} (i : Nat) (hi : L[i]? = some c) (he : Els R v xs c) (hx : evE s x = some (elemQ v k R.sz off)) (hy : xs[k]? = some y) (hu : aggB P t m = true) (hm : Nat.ble (off + m) R.sz = true) (ho : Opens R y Q) : OpX P s L ⟨d, .load t x, ty, pos, af, gd⟩ fun u L' => ∃ vs cs, Q vs cs ∧ u = .agg ((vs.drop off).take m).toArray ∧ L' = cs ++ L := fun ρ hρ Z w hw => by
  obtain ⟨T, S, h⟩ := hw
  have hc := h.ok (fr_get hi)
  obtain ⟨A, cap, rfl, -, -, h4⟩ := he _ _ _ hc
  obtain ⟨b, o, vss, rfl, h5, h6⟩ := h4 (pos_of_get hy)
  obtain ⟨vs, h7, h8⟩ := h5.get hy
  obtain ⟨cs, h9, h10⟩ := ho _ _ _ h8
  have hrow : CellsAt w b (o + k * R.sz) vs := fun j u hj => by have := h6 _ _ (rows_get h5 h7 hj); rw [Nat.add_assoc]; exact this
  have hm' := Nat.le_of_ble_eq_true hm
  have hlen : ((vs.drop off).take m).length = m := by rw [List.length_take, List.length_drop, R.len h8]; omega
  obtain ⟨T', h11⟩ := SepL.facts cs h h10
  refine .inl ⟨_, w, cs ++ L, ev_loadS (C := (· = w)) (b := b) (o := o + k * R.sz + off) (cs := (vs.drop off).take m) hx (here (p := fun w => CellsAt w b (o + k * R.sz + off) ((vs.drop off).take m)) (hrow.part off m)) (by rw [hlen]; exact hu) ρ hρ w rfl, ⟨T', S, by rw [List.append_assoc]; exact h11⟩, vs, cs, h9, rfl, rfl⟩
/-! boxes -/
theorem rd_box1 {t bt : TypeId} {x : Operand} {b o : Nat} {cs : List Value} {u : Value} (i : Nat) (hi : L[i]? = some (boxC b bt cs)) (hx : evE s x = some (.pointer (some ⟨b, o, none⟩))) (hu : oneB P t = true) (hc : cs[o]? = some u) : Rd P s L ⟨d, .load t x, ty, pos, af, gd⟩ u := fun Z w hw => by
  obtain ⟨T, S, -, h⟩ := hw.get (fr_get hi)
  exact ev_load1 hx hu (here (p := fun w => w.cell? ⟨b, o, none⟩ = some u) (h.at (by simpa using hc)))
theorem rd_boxS {t bt : TypeId} {x : Operand} {b o : Nat} {cs us : List Value} (i : Nat) (hi : L[i]? = some (boxC b bt cs)) (hx : evE s x = some (.pointer (some ⟨b, o, none⟩))) (hu : aggB P t us.length = true) (hc : (cs.drop o).take us.length = us) : Rd P s L ⟨d, .load t x, ty, pos, af, gd⟩ (.agg us.toArray) := fun Z w hw => by
  obtain ⟨T, S, -, h⟩ := hw.get (fr_get hi)
  have h5 := h.all.part o us.length
  rw [hc, Nat.zero_add] at h5
  exact ev_loadS hx (here (p := fun w => CellsAt w b o us) h5) hu
theorem op_box {t : TypeId} {x : Operand} {v : Value} {cs : List Value} (hx : evE s x = some v) (hc : v.cells.toList = cs) : OpX P s L ⟨d, .box t x, ty, pos, af, gd⟩ fun u L' => ∃ b, u = .pointer (some ⟨b, 0, none⟩) ∧ L' = boxC b t cs :: L := fun ρ hρ Z w hw => by
  refine .inl ⟨.pointer (some ⟨w.heap.size, 0, none⟩), w.alloc (.cells v.cells t), boxC w.heap.size t cs :: L, ?_, SepL.new (c := boxC w.heap.size t cs) hw (Agr.of_ext ((Ext.refl w).alloc _)) fun _ S _ => ⟨(· = w.heap.size), fun q hq => ?_, rfl, ?_⟩, _, rfl, rfl⟩
  · unfold execOp; simp only [hρ x _ hx]; rfl
  · subst hq; simp
  · subst hc; simpa using Blk.new w t v.cells
theorem op_alloc {t : TypeId} {v : Value} {cs : List Value} (hz : ∀ w, (zeroValue t).run P w = .ok v w) (hc : v.cells.toList = cs) : OpX P s L ⟨d, .alloc t, ty, pos, af, gd⟩ fun u L' => ∃ b, u = .pointer (some ⟨b, 0, none⟩) ∧ L' = boxC b t cs :: L := fun ρ hρ Z w hw => by
  refine .inl ⟨.pointer (some ⟨w.heap.size, 0, none⟩), w.alloc (.cells v.cells t), boxC w.heap.size t cs :: L, ?_, SepL.new (c := boxC w.heap.size t cs) hw (Agr.of_ext ((Ext.refl w).alloc _)) fun _ S _ => ⟨(· = w.heap.size), fun q hq => ?_, rfl, ?_⟩, _, rfl, rfl⟩
  · unfold execOp; simp only [Instr.alloc, Sem.run_bind, hz, Result.andThen_ok]; rfl
  · subst hq; simp
  · subst hc; simpa using Blk.new w t v.cells
theorem ow_list : ∀ (cs us : List Value) (o : Nat), ow cs.toArray o us = (cs.take o ++ us ++ cs.drop (o + us.length)).toArray ∨ cs.length < o + us.length := by
  intro cs us o
  by_cases h : o + us.length ≤ cs.length
  · left
    apply Array.ext_getElem?
    intro j
    rw [ow_get us _ o j (by simpa using h)]
    simp only [List.getElem?_toArray, List.append_assoc]
    by_cases h1 : j < o
    · rw [if_neg (by omega), List.getElem?_append_left (by rw [List.length_take]; omega), List.getElem?_take, if_pos h1]
    · rw [List.getElem?_append_right (by rw [List.length_take]; omega), List.length_take, show min o cs.length = o by omega]
      by_cases h2 : j < o + us.length
      · rw [if_pos (by omega), List.getElem?_append_left (by omega)]
      · rw [if_neg (by omega), List.getElem?_append_right (by omega), List.getElem?_drop]
        congr 1; omega
  · right; omega
/-- a store into a box -/
theorem op_store {t bt : TypeId} {x y : Operand} {b o : Nat} {cs cs' us : List Value} {v : Value} (i : Nat) (hi : L[i]? = some (boxC b bt cs)) (hx : evE s x = some (.pointer (some ⟨b, o, none⟩))) (hy : evE s y = some v) (hv : v.cells.toList = us) (hs : sizeB P t us.length = true) (h1 : us.all (·.oneCell') = true) (hc : Nat.ble (o + us.length) cs.length = true) (hc' : cs.take o ++ us ++ cs.drop (o + us.length) = cs') : OpX P s L ⟨d, .store t x y, ty, pos, af, gd⟩ fun _ L' => L' = L.set i (boxC b bt cs') := fun ρ hρ Z w hw => by
  obtain ⟨T, S, hT, h⟩ := hw.get (fr_get hi)
  have hle := Nat.le_of_ble_eq_true hc
  obtain ⟨w', e1, e2, e3⟩ := run_storeCells_blk (P := P) us w b o 0 cs.toArray h (by simpa using hle) h1
  refine .inr (.inl ⟨w', _, ?_, ?_, rfl⟩)
  · unfold execOp
    have hcs : v.cells = us.toArray := by rw [← hv]
    simp only [hρ x _ hx, hρ y _ hy, Instr.storeAt, Instr.sureAddr, storeVar, Sem.run_bind, Sem.run_pure, Result.andThen_ok, sizeB_run hs w, hcs, List.size_toArray, ne_eq, not_true, if_false, e1]
  · have h2 := SepL.upd (w' := w') hw (fr_get hi) (d := boxC b bt cs') fun T S ⟨g1, g2⟩ g3 _ _ => ⟨Agr.of_fr e2 fun q hq e => hq (e ▸ g1), T, fun _ => .inl, fun q hq => Nat.lt_of_lt_of_le (g3 q hq) e2.size, g1, by
      rcases ow_list cs us o with h3 | h3
      · rw [Nat.add_zero, h3, hc'] at e3; exact e3
      · omega⟩
    rw [fr_set Z hi] at h2
    exact h2
end
end Go.Proofs.Ytmbaennilhdieaa
