/- The walk by small steps: rows of one's own that are written element by element; growing slices. Over any program. -/
import Derived.Test.YtmbaennilhdieaaEng6
namespace Go.Proofs.Ytmbaennilhdieaa
open Go.RowKit

theorem flatS_len {α : Type} {en : α → List Value} {sz : Nat} (hs : ∀ x, (en x).length = sz) (xs : List α) : (xs.flatMap en).length = xs.length * sz := by
  induction xs with
  | nil => simp
  | cons x xs ih => rw [List.flatMap_cons, List.length_append, ih, hs, List.length_cons, Nat.add_mul]; omega
theorem flatS_get {α : Type} {en : α → List Value} {sz : Nat} (hs : ∀ x, (en x).length = sz) : ∀ (xs : List α) (i : Nat) (x : α) (j : Nat) (u : Value), xs[i]? = some x → (en x)[j]? = some u → (xs.flatMap en)[i * sz + j]? = some u
  | [], _, _, _, _, h, _ => by simp at h
  | y :: xs, 0, x, j, u, h, hu => by
    simp only [List.getElem?_cons_zero, Option.some.injEq] at h
    subst h
    have hj : j < (en y).length := (List.getElem?_eq_some_iff.1 hu).1
    rw [List.flatMap_cons, Nat.zero_mul, Nat.zero_add, List.getElem?_append_left hj]
    exact hu
  | y :: xs, i + 1, x, j, u, h, hu => by
    simp only [List.getElem?_cons_succ] at h
    have e : (i + 1) * sz + j = (en y).length + (i * sz + j) := by rw [hs, Nat.add_mul]; omega
    rw [List.flatMap_cons, e, List.getElem?_append_right (by omega), Nat.add_sub_cancel_left]
    exact flatS_get hs xs i x j u h hu
/-- block g is just the rows of xs -/
def Rw {α : Type} (w : World) (g : Nat) (t : TypeId) (en : α → List Value) (xs : List α) : Prop := Blk w g t (xs.flatMap en).toArray
theorem Rw.ext {α : Type} {w w' : World} {g : Nat} {t : TypeId} {en : α → List Value} {xs : List α} (h : Rw w g t en xs) (hx : Ext w w') : Rw w' g t en xs := Blk.ext h hx
theorem Rw.lt {α : Type} {w : World} {g : Nat} {t : TypeId} {en : α → List Value} {xs : List α} (h : Rw w g t en xs) : g < w.heap.size := Blk.lt h
theorem Rw.fr {α : Type} {S : Nat → Prop} {w w' : World} {g : Nat} {t : TypeId} {en : α → List Value} {xs : List α} (h : Rw w g t en xs) (hx : Fr S w w') (hn : ¬ S g) : Rw w' g t en xs := Blk.fr h hx hn
theorem Rw.frT {α : Type} {w w' : World} {b c : Nat} {tb tc : TypeId} {old : Array Value} {en : α → List Value} {xs : List α} (h : Rw w c tc en xs) (hx : Fr (· = b) w w') (hb : Blk w b tb old) (hne : tc ≠ tb) : Rw w' c tc en xs := Blk.frT h hx hb hne
theorem Rw.at {α : Type} {w : World} {g : Nat} {t : TypeId} {en : α → List Value} {xs : List α} {sz : Nat} (h : Rw w g t en xs) (hs : ∀ x, (en x).length = sz) {i : Nat} {x : α} (hi : xs[i]? = some x) : CellsAt w g (0 + i * sz) (en x) := fun j u hj => by
  rw [Blk.cells h, Nat.zero_add]
  simpa using flatS_get hs xs i x j u hi hj
theorem Rw.sq {α : Type} {w : World} {g : Nat} {t : TypeId} {en : α → List Value} {xs : List α} {sz : Nat} (h : Rw w g t en xs) (hs : ∀ x, (en x).length = sz) : SqA w t sz en (some ⟨g, 0, none⟩) xs :=
  ⟨fun _ => rfl, fun _ => ⟨_, _, h⟩, fun hi => h.at hs hi⟩
theorem flat_idx {sz k i : Nat} (hz : 0 < sz) (h1 : i * sz ≤ k) (h2 : k < i * sz + sz) : k / sz = i ∧ k % sz = k - i * sz := by
  have e : k = (k - i * sz) + sz * i := by rw [Nat.mul_comm sz i]; omega
  have hlt : k - i * sz < sz := by omega
  constructor
  · rw [e, Nat.add_mul_div_left _ _ hz, Nat.div_eq_of_lt hlt, Nat.zero_add]
  · conv => lhs; rw [e]
    rw [Nat.add_mul_mod_self_left, Nat.mod_eq_of_lt hlt]
theorem ow_rows {α : Type} {en : α → List Value} {sz : Nat} (hs : ∀ x, (en x).length = sz) (x : α) : ∀ (xs : List α) (i : Nat), i < xs.length → (ow (xs.flatMap en).toArray (0 + i * sz) (en x)) = ((xs.set i x).flatMap en).toArray := by
  intro xs i hi
  have hle : 0 + i * sz + (en x).length ≤ (xs.flatMap en).toArray.size := by
    have h1 : (i + 1) * sz ≤ xs.length * sz := Nat.mul_le_mul_right sz hi
    rw [Nat.add_mul] at h1
    simp only [List.size_toArray, flatS_len hs, hs]
    omega
  apply Array.ext_getElem?
  intro j
  rw [ow_get _ _ _ _ hle, hs]
  rcases Nat.lt_or_ge j (xs.length * sz) with hj | hj
  · rcases Nat.eq_zero_or_pos sz with rfl | hz
    · simp at hj
    have hq : j / sz < xs.length := by rw [Nat.div_lt_iff_lt_mul hz]; exact hj
    have hm : j % sz < sz := Nat.mod_lt _ hz
    have hdm : j = j / sz * sz + j % sz := by rw [Nat.mul_comm]; exact (Nat.div_add_mod j sz).symm
    have hl : (xs.set i x)[j / sz]? = some ((xs.set i x)[j / sz]'(by simpa using hq)) := List.getElem?_eq_getElem _
    have hr := flatS_get hs (xs.set i x) (j / sz) _ (j % sz) ((en ((xs.set i x)[j / sz]'(by simpa using hq)))[j % sz]'(by rw [hs]; exact hm)) hl (List.getElem?_eq_getElem _)
    rw [← hdm] at hr
    have hr' : ((xs.set i x).flatMap en).toArray[j]? = ((xs.set i x).flatMap en)[j]? := by simp
    rw [hr', hr]
    by_cases e : 0 + i * sz ≤ j ∧ j < 0 + i * sz + sz
    · rw [if_pos e]
      obtain ⟨e1, e2⟩ := flat_idx hz (by omega : i * sz ≤ j) (by omega)
      rw [show j - (0 + i * sz) = j % sz by omega]
      simp only [e1, List.getElem_set_self]
      exact List.getElem?_eq_getElem _
    · rw [if_neg e]
      have hne : i ≠ j / sz := by
        rintro rfl
        apply e
        constructor <;> omega
      have hl2 : xs[j / sz]? = some (xs[j / sz]) := List.getElem?_eq_getElem hq
      have hr2 := flatS_get hs xs (j / sz) _ (j % sz) ((en (xs[j / sz]))[j % sz]'(by rw [hs]; exact hm)) hl2 (List.getElem?_eq_getElem _)
      rw [← hdm] at hr2
      simp only [List.getElem_set_ne hne]
      simpa using hr2
  · have h1 : ¬ (0 + i * sz ≤ j ∧ j < 0 + i * sz + sz) := by
      have h1 : (i + 1) * sz ≤ xs.length * sz := Nat.mul_le_mul_right sz hi
      rw [Nat.add_mul] at h1
      omega
    rw [if_neg h1, Array.getElem?_eq_none (by simp [flatS_len hs]; omega), Array.getElem?_eq_none (by simp [flatS_len hs]; omega)]
theorem made_rows {α : Type} {en : α → List Value} (x : α) {z : Array Value} (hz : z = (en x).toArray) (n : Nat) (hp : 0 < (en x).length) : madeCells z (n * (en x).length) = ((List.replicate n x).flatMap en).toArray := by
  subst hz
  apply Array.ext_getElem?
  intro j
  have hlen : ((List.replicate n x).flatMap en).length = n * (en x).length := by
    have : ∀ n, ((List.replicate n x).flatMap en).length = n * (en x).length := fun n => by
      induction n with
      | zero => simp
      | succ n ih => rw [List.replicate_succ, List.flatMap_cons, List.length_append, ih, Nat.add_mul]; omega
    exact this n
  rcases Nat.lt_or_ge j (n * (en x).length) with hj | hj
  · have hm : j % (en x).length < (en x).length := Nat.mod_lt _ hp
    have key : ∀ n j, j < n * (en x).length → ((List.replicate n x).flatMap en)[j]? = (en x)[j % (en x).length]? := by
      intro n
      induction n with
      | zero => intro j hj; simp at hj
      | succ n ih =>
        intro j hj
        rw [List.replicate_succ, List.flatMap_cons]
        rcases Nat.lt_or_ge j (en x).length with h | h
        · rw [List.getElem?_append_left h, Nat.mod_eq_of_lt h]
        · rw [List.getElem?_append_right h, ih _ (by rw [Nat.add_mul] at hj; omega), ← Nat.mod_eq_sub_mod h]
    have h2 := key n j hj
    rw [List.getElem?_eq_getElem hm] at h2
    simp only [madeCells, Array.getElem?_map, Array.getElem?_range, hj]
    simp [hm, h2]
  · rw [Array.getElem?_eq_none (by simp [madeCells]; omega), Array.getElem?_eq_none (by simp only [List.size_toArray]; omega)]

section
variable {P : Program} {n : Nat} {ops : Array Oper} {K : Cont} {s : Env} {w : World} {rest : List Oper} {d : Nat} {ty : TypeId} {pos : String} {af : Array Edge} {gd : Option (Nat × Bool)}
/-- xs[i] = x -/
theorem A_storeElem {α : Type} {en : α → List Value} {sz : Nat} {t bt : TypeId} {x y : Operand} {b i : Nat} {c : α} {xs : List α} (hx : evE s x = some (.pointer (some ⟨b, 0 + i * sz, none⟩))) (hy : evE s y = some (.agg (en c).toArray)) (hb : Rw w b bt en xs) (hs : ∀ x, (en x).length = sz) (hu : sizeB P t sz = true) (hi : i < xs.length) (h1 : (en c).all (·.oneCell') = true)
    (hg : guardE ops s ⟨none, .store t x y, ty, pos, af, gd⟩ = some true) (k : ∀ w', Fr (· = b) w w' → Rw w' b bt en (xs.set i c) → RunE P n ops rest K s w') : RunE P n ops (⟨none, .store t x y, ty, pos, af, gd⟩ :: rest) K s w := by
  refine A_storePart hx hy hb (by rw [hs]; exact hu) ?_ h1 hg fun w' h2 h3 => k w' h2 ?_
  · have h1 : (i + 1) * sz ≤ xs.length * sz := Nat.mul_le_mul_right sz hi
    rw [Nat.add_mul] at h1
    simp only [List.size_toArray, flatS_len hs, hs]
    omega
  · unfold Rw
    rw [← ow_rows hs c xs i hi]
    exact h3
/-- one cell of xs[i] -/
theorem A_storeElemAt {α : Type} {en : α → List Value} {sz j : Nat} {t bt : TypeId} {x y : Operand} {b i : Nat} {v : Value} {c c' : α} {xs : List α} (hx : evE s x = some (.pointer (some ⟨b, 0 + i * sz + j, none⟩))) (hy : evE s y = some v) (hb : Rw w b bt en xs) (hs : ∀ x, (en x).length = sz) (hu : sizeB P t 1 = true) (hi : xs[i]? = some c) (hj : j < sz) (he : en c' = (en c).set j v) (h1 : v.oneCell' = true)
    (hg : guardE ops s ⟨none, .store t x y, ty, pos, af, gd⟩ = some true) (k : ∀ w', Fr (· = b) w w' → Rw w' b bt en (xs.set i c') → RunE P n ops rest K s w') : RunE P n ops (⟨none, .store t x y, ty, pos, af, gd⟩ :: rest) K s w := by
  have hlt : i < xs.length := (List.getElem?_eq_some_iff.1 hi).1
  have hjl : j < (en c).length := by rw [hs]; exact hj
  have h0 := flatS_get hs xs i c j ((en c)[j]) hi (List.getElem?_eq_getElem hjl)
  refine A_storeAt (u := (en c)[j]) hx hy hb (by simpa using h0) h1 hu hg fun w' h2 h3 => k w' h2 ?_
  unfold Rw
  rw [← ow_rows hs c' xs i hlt]
  have e : ow (xs.flatMap en).toArray (0 + i * sz) (en c') = (xs.flatMap en).toArray.setIfInBounds (0 + i * sz + j) v := by
    have hle : (i + 1) * sz ≤ xs.length * sz := Nat.mul_le_mul_right sz hlt
    rw [Nat.add_mul] at hle
    apply Array.ext_getElem?
    intro q
    rw [ow_get _ _ _ _ (by simp only [List.size_toArray, flatS_len hs, hs]; omega), hs, Array.getElem?_setIfInBounds]
    by_cases e1 : 0 + i * sz + j = q
    · subst e1
      rw [if_pos (by omega), if_pos rfl, if_pos (by simp only [List.size_toArray, flatS_len hs]; omega), he, show 0 + i * sz + j - (0 + i * sz) = j by omega]
      simp [hjl]
    · rw [if_neg e1]
      by_cases e2 : 0 + i * sz ≤ q ∧ q < 0 + i * sz + sz
      · rw [if_pos e2, he, List.getElem?_set_ne (by omega)]
        have h4 := flatS_get hs xs i c (q - (0 + i * sz)) ((en c)[q - (0 + i * sz)]'(by rw [hs]; omega)) hi (List.getElem?_eq_getElem _)
        rw [show i * sz + (q - (0 + i * sz)) = q by omega] at h4
        rw [List.getElem?_eq_getElem (by rw [hs]; omega)]
        simpa using h4.symm
      · rw [if_neg e2]
  rw [e]
  exact h3
end
/-! a growing slice -/
/-- v is nil, or a row of its own made behind w0; it holds xs -/
def Own {α : Type} (w0 w : World) (t : TypeId) (sz : Nat) (en : α → List Value) (v : Value) (xs : List α) : Prop := w.ownsRow w0.heap.size t sz v xs.length (xs.flatMap en)
theorem own_nil {α : Type} (w0 w : World) (t : TypeId) (sz : Nat) (en : α → List Value) : Own w0 w t sz en (.slice none 0 0) ([] : List α) := World.ownsRow_nil w w0.heap.size t sz
theorem Own.sq {α : Type} {w0 w : World} {t : TypeId} {sz : Nat} {en : α → List Value} {v : Value} {xs : List α} (h : Own w0 w t sz en v xs) (hs : ∀ x, (en x).length = sz) : Sq w t sz en v xs := by
  rcases h.2 with ⟨rfl, h0⟩ | ⟨g, cap, cur, rfl, h1, h2, h3, h4, h5, h6⟩
  · have : xs = [] := List.eq_nil_of_length_eq_zero h0
    subst this
    exact ⟨none, 0, rfl, Nat.le_refl _, by omega, sqA_nil ..⟩
  · refine ⟨_, cap, rfl, h3, by unfold maxLen at h4; omega, fun _ => rfl, fun _ => ⟨_, _, h2⟩, fun {i x} hi j u hj => ?_⟩
    have hb : Blk w g t cur := h2
    have hlt : i < xs.length := (List.getElem?_eq_some_iff.1 hi).1
    have hjl : j < sz := by rw [← hs x]; exact (List.getElem?_eq_some_iff.1 hj).1
    have hle : (i + 1) * sz ≤ xs.length * sz := Nat.mul_le_mul_right sz hlt
    rw [Nat.add_mul] at hle
    have e1 := flatS_get hs xs i x j u hi hj
    rw [← h6, List.getElem?_take, if_pos (by omega), Array.getElem?_toList] at e1
    show w.cell? ⟨g, 0 + i * sz + j, none⟩ = some u
    rw [hb.cells, Nat.zero_add]
    exact e1
theorem Own.ext {α : Type} {w0 w w' : World} {t : TypeId} {sz : Nat} {en : α → List Value} {v : Value} {xs : List α} (h : Own w0 w t sz en v xs) (hx : Ext w w') : Own w0 w' t sz en v xs := by
  refine ⟨h.1, ?_⟩
  rcases h.2 with h3 | ⟨g, cap, cur, e, hg, hh, r⟩
  · exact .inl h3
  · exact .inr ⟨g, cap, cur, e, hg, (Blk.ext (t := t) hh hx), r⟩
theorem Own.fr {α : Type} {S : Nat → Prop} {w0 w w' : World} {t : TypeId} {sz : Nat} {en : α → List Value} {v : Value} {xs : List α} (h : Own w0 w t sz en v xs) (hx : Fr S w w') (hn : ∀ q, v.ownBlock = some q → ¬ S q) : Own w0 w' t sz en v xs := by
  refine ⟨h.1, ?_⟩
  rcases h.2 with h3 | ⟨g, cap, cur, e, hg, hh, r⟩
  · exact .inl h3
  · refine .inr ⟨g, cap, cur, e, hg, (Blk.fr (t := t) hh hx (hn g (by rw [e]; rfl))), r⟩
theorem Own.lt {α : Type} {w0 w : World} {t : TypeId} {sz : Nat} {en : α → List Value} {v : Value} {xs : List α} (h : Own w0 w t sz en v xs) {q : Nat} (hq : v.ownBlock = some q) : w0.heap.size ≤ q ∧ q < w.heap.size := World.ownsRow.lt h q hq
theorem Own.frT {α : Type} {w0 w w' : World} {t tb b : Nat} {old : Array Value} {sz : Nat} {en : α → List Value} {v : Value} {xs : List α} (h : Own w0 w t sz en v xs) (hx : Fr (· = b) w w') (hb : Blk w b tb old) (hne : t ≠ tb) : Own w0 w' t sz en v xs := h.fr hx fun _ hq e => by
  rcases h.2 with ⟨rfl, -⟩ | ⟨g, cap, cur, rfl, hg, hh, r⟩
  · cases hq
  · cases hq
    subst e
    unfold Blk at hb
    rw [hb] at hh
    cases hh
    exact hne rfl
/-- what a growing slice does leaves other blocks alone -/
theorem Blk.grow {α : Type} {w0 w w' : World} {t tb b : Nat} {old : Array Value} {sz : Nat} {en : α → List Value} {v : Value} {xs : List α} (hb : Blk w b tb old) (hx : Fr (fun q => v.ownBlock = some q) w w') (h : Own w0 w t sz en v xs) (hne : tb ≠ t) : Blk w' b tb old := hb.fr hx fun hq => by
  rcases h.2 with ⟨rfl, -⟩ | ⟨g, cap, cur, rfl, hg, hh, r⟩
  · cases hq
  · cases hq
    unfold Blk at hb
    rw [hb] at hh
    cases hh
    exact hne rfl
theorem Fr.own_ext {α : Type} {w0 w w' : World} {t : TypeId} {sz : Nat} {en : α → List Value} {v : Value} {xs : List α} (h : Own w0 w t sz en v xs) (hx : Fr (fun q => v.ownBlock = some q) w w') (he : Ext w0 w) : Ext w0 w' := hx.ext he fun _ hq => (h.lt hq).1
def zeroB (P : Program) (e : TypeId) (sz by_ : Nat) : Bool := match P.info? e with
  | some i => Nat.beq i.size sz && Nat.beq i.bytes by_ && (match i.zero with | some z => Nat.beq z.cells.size sz | none => false) && Nat.blt 0 sz
  | none => false
section
variable {P : Program} {n : Nat} {ops : Array Oper} {K : Cont} {s : Env} {w : World} {rest : List Oper} {d : Nat} {ty : TypeId} {pos : String} {af : Array Edge} {gd : Option (Nat × Bool)}
theorem O_append {α : Type} {en : α → List Value} {x y : Operand} {t e : TypeId} {w0 : World} {m c sz by_ : Nat} {v : Value} {xs news : List α} {b o : Nat} (hx : evE s x = some v) (hy : evE s y = some (.slice (some ⟨b, o, none⟩) m c)) (ht : P.underlying t = some (.slice e)) (hz : zeroB P e sz by_ = true)
    (hown : Own w0 w e sz en v xs) (hs : ∀ x, (en x).length = sz) (hnews : CellsAt w b o (news.flatMap en)) (hl : news.length = m) (h1 : (news.flatMap en).all (·.oneCell') = true) (hb : (xs.length + m) * (by_ + 1) ≤ 140737488355328) (he : Ext w0 w)
    (hg : guardE ops s ⟨some d, .call ⟨.builtin .append, #[x, y], #[t, t]⟩, ty, pos, af, gd⟩ = some true) (hd : Nat.ble (d + 1) n = true)
    (kk : ∀ v' w', Own w0 w' e sz en v' (xs ++ news) → Fr (fun q => v.ownBlock = some q) w w' → Ext w0 w' → RunE P n ops rest K ((d, v') :: s) w') : RunE P n ops (⟨some d, .call ⟨.builtin .append, #[x, y], #[t, t]⟩, ty, pos, af, gd⟩ :: rest) K s w := by
  unfold zeroB at hz
  cases hi : P.info? e with
  | none => rw [hi] at hz; cases hz
  | some i =>
    rw [hi] at hz
    simp only [Bool.and_eq_true] at hz
    obtain ⟨⟨⟨h2, h3⟩, h4⟩, h5⟩ := hz
    cases hzz : i.zero with
    | none => rw [hzz] at h4; cases h4
    | some z =>
      rw [hzz] at h4
      have e2 := Nat.eq_of_beq_eq_true h2
      have e3 := Nat.eq_of_beq_eq_true h3
      have e4 := Nat.eq_of_beq_eq_true h4
      have e5 : 0 < sz := by have h6 : 1 ≤ sz := (by simpa [Nat.blt] using h5); omega
      subst hl
      have hm : (xs.length + news.length) * by_ ≤ 140737488355328 ∧ xs.length + news.length ≤ 140737488355328 := by
        rw [Nat.mul_add] at hb
        omega
      refine A_append (base := w0.heap.size) (k := xs.length) hx hy ht hi hzz e2 e3 e4 e5 hown hnews (flatS_len hs news) h1 (by unfold maxLen; omega) hm.1 he.size hg hd fun v' w' g1 g2 _ => kk v' w' ?_ g2 (Fr.own_ext hown g2 he)
      unfold Own
      rw [List.length_append, List.flatMap_append]
      exact g1
end
end Go.Proofs.Ytmbaennilhdieaa
