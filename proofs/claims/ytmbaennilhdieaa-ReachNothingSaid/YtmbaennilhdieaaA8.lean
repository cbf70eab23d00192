/- The walk over chunks: rows that are opened; results in memory; conversions; function values. Over any program. -/
import Derived.Test.YtmbaennilhdieaaA7
namespace Go.Proofs.Ytmbaennilhdieaa
open Go.RowKit

/-- at the place p lie these cells, and nobody writes them -/
def rowC (p : Value) (vs : List Value) : Chunk where
  ok _ S w := ∃ b o, p = .pointer (some ⟨b, o, none⟩) ∧ S b ∧ b < w.heap.size ∧ CellsAt w b o vs
  loc := fun h ⟨b, o, h1, h2, h3, h4⟩ => ⟨b, o, h1, h2, Nat.lt_of_lt_of_le h3 h.size, h4.agr h (.inr h2) h3⟩
  mono := fun h ⟨b, o, h1, h2, h3, h4⟩ => ⟨b, o, h1, h _ h2, h3, h4⟩
  ro := true
  dup := fun _ _ _ _ h => h
theorem row_facts {α : Type} {R : Rep α} {L Z : List Chunk} {w : World} {v : Value} {xs : List α} {k : Nat} {x : α} {Q : List Value → List Chunk → Prop} (hw : Sp Z L w) {i : Nat} (hi : L[i]? = some (slC R v xs)) (hx : xs[k]? = some x) (ho : Opens R x Q) : ∃ vs cs, Q vs cs ∧ Sp Z (rowC (elemQ v k R.sz 0) vs :: (cs ++ L)) w := by
  obtain ⟨T, S, h⟩ := hw
  obtain ⟨A, c, rfl, -, -, h4⟩ := h.ok (fr_get hi)
  obtain ⟨b, o, vss, rfl, h5, h6, h7, h8⟩ := h4 (pos_of_get hx)
  obtain ⟨vs, h9, h10⟩ := h7.get hx
  obtain ⟨cs, h11, h12⟩ := ho _ _ _ h10
  refine ⟨vs, cs, h11, ?_⟩
  obtain ⟨T', h13⟩ := SepL.facts (rowC (elemQ (.slice (some ⟨b, o, none⟩) xs.length c) k R.sz 0) vs :: cs) h (mem_cons ⟨b, o + k * R.sz, rfl, h5, h6, fun j u hj => by have := h8 _ _ (rows_get h7 h9 hj); rw [Nat.add_assoc]; exact this⟩ h12)
  refine ⟨T', S, ?_⟩
  simpa using h13
section
variable {P : Program} {s : Env} {L : List Chunk} {d : Option Nat} {ty : TypeId} {pos : String} {af : Array Edge} {gd : Option (Nat × Bool)}
theorem elemQ_off {v : Value} {k sz off b o : Nat} (h : elemQ v k sz 0 = .pointer (some ⟨b, o, none⟩)) : elemQ v k sz off = .pointer (some ⟨b, o + off, none⟩) := by
  unfold elemQ at *
  split at h
  · injection h with h; injection h with h; injection h with h1 h2; subst h1 h2; rfl
  · cases h
theorem rd_row1 {t : TypeId} {x : Operand} {v u : Value} {k sz off : Nat} {vs : List Value} (i : Nat) (hi : L[i]? = some (rowC (elemQ v k sz 0) vs)) (hx : evE s x = some (elemQ v k sz off)) (hu : oneB P t = true) (hv : vs[off]? = some u) : Rd P s L ⟨d, .load t x, ty, pos, af, gd⟩ u := fun Z w hw => by
  obtain ⟨T, S, b, o, h1, h2, h3, h4⟩ := hw.get (fr_get hi)
  rw [elemQ_off h1] at hx
  exact ev_load1 hx hu (here (p := fun w => w.cell? ⟨b, o + off, none⟩ = some u) (h4 _ _ hv))
theorem rd_rowS {t : TypeId} {x : Operand} {v : Value} {k sz off : Nat} {vs us : List Value} (i : Nat) (hi : L[i]? = some (rowC (elemQ v k sz 0) vs)) (hx : evE s x = some (elemQ v k sz off)) (hu : aggB P t us.length = true) (hv : (vs.drop off).take us.length = us) : Rd P s L ⟨d, .load t x, ty, pos, af, gd⟩ (.agg us.toArray) := fun Z w hw => by
  obtain ⟨T, S, b, o, h1, h2, h3, h4⟩ := hw.get (fr_get hi)
  rw [elemQ_off h1] at hx
  have h5 := h4.part off us.length
  rw [hv] at h5
  exact ev_loadS hx (here (p := fun w => CellsAt w b (o + off) us) h5) hu
end
section
variable {X : Cx} {ops : Array Oper} {K : K3} {M : List Chunk} {s : Env} {L : List Chunk} {fuel : Nat} {listed : Array Bool}
/-- two ways that meet: what follows is shown once, behind them -/
theorem T3_joinB (ix : Array Bool → Array Bool) (n2 pd : Nat) (b : Bool) (k : TkG X ops K M n2 (ix listed) ((pd, .bool b) :: s) L → TkG X ops K M fuel listed s L) (h : TkG X ops K M n2 (ix listed) ((pd, .bool b) :: s) L) : TkG X ops K M fuel listed s L := k h
/-- an element is opened on the way -/
theorem G_row {α : Type} {R : Rep α} {v : Value} {xs : List α} {k : Nat} {x : α} {l : List Oper} {Q : List Value → List Chunk → Prop} (i : Nat) (hi : L[i]? = some (slC R v xs)) (hx : xs[k]? = some x) (ho : Opens R x Q) (h : ∀ vs cs, Q vs cs → RunG X ops l K s (rowC (elemQ v k R.sz 0) vs :: (cs ++ L))) : RunG X ops l K s L := fun H Ds a w ha hd hw => by
  obtain ⟨vs, cs, h1, h2⟩ := row_facts hw hi hx ho
  exact h vs cs h1 H Ds a w ha hd h2
theorem cv_cons {L L' : List Chunk} (c : Chunk) (h : Cv L L') : Cv (c :: L) (c :: L') := fun Z w hw => by
  have h1 : Sp (Z ++ [c]) L w := by
    refine SepL.pick (L := (c :: L) ++ Z) hw (fun j => if j < L.length + Z.length then j + 1 else 0) ?_ ?_
    · intro j d hj
      rw [← List.append_assoc] at hj
      by_cases hlt : j < L.length + Z.length
      · simp only [hlt, if_true, List.cons_append, List.getElem?_cons_succ]
        rw [List.getElem?_append_left (by simpa using hlt)] at hj
        exact hj
      · rw [List.getElem?_append_right (by simp; omega)] at hj
        have : j - (L ++ Z).length = 0 := by
          rcases Nat.eq_zero_or_pos (j - (L ++ Z).length) with h0 | h0
          · exact h0
          · rw [show j - (L ++ Z).length = (j - (L ++ Z).length - 1) + 1 by omega] at hj; simp at hj
        rw [this] at hj
        simp only [hlt, if_false]
        simpa using hj
    · intro i j h1 h2 e
      simp only [List.length_append, List.length_cons, List.length_nil] at h1 h2
      split at e <;> split at e <;> omega
  have h2 : SepL (L' ++ (Z ++ [c])) w := h _ _ h1
  refine SepL.pick h2 (fun j => if j = 0 then L'.length + Z.length else j - 1) ?_ ?_
  · intro j d hj
    cases j with
    | zero =>
      simp only [List.cons_append, List.getElem?_cons_zero, Option.some.injEq] at hj
      subst hj
      simp only [if_true]
      rw [List.getElem?_append_right (by omega), List.getElem?_append_right (by omega)]
      simp
    | succ j =>
      simp only [List.cons_append, List.getElem?_cons_succ] at hj
      have hlt : j < (L' ++ Z).length := (List.getElem?_eq_some_iff.1 hj).1
      simp only [Nat.succ_ne_zero, if_false, Nat.add_sub_cancel]
      rw [← List.append_assoc, List.getElem?_append_left hlt]
      exact hj
  · intro i j h1 h2 e
    simp only [List.length_append, List.length_cons] at h1 h2
    split at e <;> split at e <;> omega
theorem cv_app {L L' : List Chunk} : ∀ (cs : List Chunk), Cv L L' → Cv (cs ++ L) (cs ++ L')
  | [], h => h
  | c :: cs, h => cv_cons c (cv_app cs h)
theorem T3_row {α : Type} {R : Rep α} {v : Value} {xs : List α} {k : Nat} {x : α} {Q : List Value → List Chunk → Prop} (i : Nat) (hi : L[i]? = some (slC R v xs)) (hx : xs[k]? = some x) (ho : Opens R x Q) (h : ∀ vs cs, Q vs cs → TkG X ops K (rowC (elemQ v k R.sz 0) vs :: (cs ++ M)) fuel listed s (rowC (elemQ v k R.sz 0) vs :: (cs ++ L))) : TkG X ops K M fuel listed s L := fun hc H Ds a w ha hd hw => by
  obtain ⟨vs, cs, h1, h2⟩ := row_facts hw hi hx ho
  have h3 := h vs cs h1 (cv_cons _ (cv_app cs hc)) H Ds a w ha hd h2
  refine wpAC_weak (fun w ⟨Z, hZ⟩ => ⟨Z, ?_⟩) _ _ _ _ h3
  have h4 := SepL.pick (L' := M ++ Z) hZ (fun j => j + 1 + cs.length) (fun j c hj => by
    simp only [List.cons_append, show j + 1 + cs.length = (j + cs.length) + 1 by omega, List.getElem?_cons_succ, List.append_assoc]
    rw [List.getElem?_append_right (by omega), Nat.add_sub_cancel]
    exact hj) (fun i j _ _ e => by omega)
  exact h4
end
section
variable {X : Cx} {fn : Func} {R : Value → List Chunk → Prop} {s : Env} {L L2 : List Chunk}
end
end Go.Proofs.Ytmbaennilhdieaa
