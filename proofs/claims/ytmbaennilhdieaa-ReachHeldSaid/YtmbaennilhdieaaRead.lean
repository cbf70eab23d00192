/- An argument's reading, turned into words for memory. Over any program. -/
import Derived.Test.YtmbaennilhdieaaMem
import Derived.Deep.Slices
import Derived.Deep.Fields
import Derived.ChangeSame
namespace Go.Proofs.Ytmbaennilhdieaa
open Go.RowKit Go.ChangeShapes Go.WideShapes Go.Deep

theorem plain_of_cell {w : World} {a : Addr} {v : Value} (h : w.cell? a = some v) : a = ⟨a.block, a.off, none⟩ := by
  obtain ⟨b, o, sp⟩ := a
  cases sp with
  | none => rfl
  | some s =>
    exfalso
    unfold World.cell? at h
    split at h <;> simp at h
theorem add_plain (b o n : Nat) : (⟨b, o, none⟩ : Addr).add n = ⟨b, o + n, none⟩ := by unfold Addr.add; split <;> simp_all

section
variable {H : Type} {enc : TypeId × Value → H} {P : Program} {w : World} {base : Nat} {spare : Nat → Bool} {held : Bool}

theorem sl_of_trod {α : Type} (sz : Nat) (en : α → List Value) {t e : TypeId} {fuel : Nat} {cs : List Value} {x : DataW H × List MemPlace} (ht : P.underlying t = some (.slice e)) (hsz : P.cellsOf e = sz) (hpos : 0 < sz)
    (hel : ∀ (n : Nat) (cs' : List Value) (y : DataW H × List MemPlace), DataW.trod enc P w base spare held n e cs' = some y → ∃ a : α, cs' = en a)
    (h : DataW.trod enc P w base spare held fuel t cs = some x) : ∃ v xs, cs = [v] ∧ Sl w sz en v xs := by
  rcases open_slice ht h with ⟨rfl, -⟩ | ⟨a, len, cap, m, n, D, Pl, rfl, hb, hl, hm, hmm, -, hi⟩
  · exact ⟨.slice none 0 0, [], rfl, none, 0, rfl, Nat.le_refl _, by omega, fun h => absurd h (by simp)⟩
  · have hlm : len ≤ m := by rw [hmm]; split <;> omega
    rw [hsz] at hi
    have key : ∀ i : Fin len, ∃ a' : α, w.cells? base (a.add (i * sz)) sz = some (en a') := fun i => by
      obtain ⟨cs', h1, h2⟩ := hi i (by omega)
      obtain ⟨a', rfl⟩ := hel _ _ _ h2
      exact ⟨a', h1⟩
    let f : Fin len → α := fun i => Classical.choose (key i)
    have hf : ∀ i : Fin len, w.cells? base (a.add (i * sz)) sz = some (en (f i)) := fun i => Classical.choose_spec (key i)
    have hlen : (List.ofFn f).length = len := by simp
    unfold maxLen at hm
    refine ⟨_, List.ofFn f, rfl, some a, cap, by rw [hlen], by rw [hlen]; exact hl, hm, fun h0 => ?_⟩
    rw [hlen] at h0
    obtain ⟨-, hl0, hat0⟩ := World.cells?_some (hf ⟨0, h0⟩)
    have hc0 := hat0 0 hpos
    have hz : (en (f ⟨0, h0⟩))[0]? = some ((en (f ⟨0, h0⟩))[0]'(by omega)) := List.getElem?_eq_getElem (by omega)
    rw [hz] at hc0
    have ha0 : (a.add ((⟨0, h0⟩ : Fin len) * sz)).add 0 = a := by simp [Addr.add]
    rw [ha0] at hc0
    have ha := plain_of_cell hc0
    refine ⟨a.block, a.off, by rw [← ha], block_lt_of_cell hc0, fun i x' hx j u hu => ?_⟩
    have hil : i < len := by
      have := (List.getElem?_eq_some_iff.1 hx).1
      omega
    have hx' : x' = f ⟨i, hil⟩ := by
      rw [List.getElem?_ofFn] at hx
      simp [hil] at hx
      exact hx.symm
    subst hx'
    obtain ⟨-, hl1, hat1⟩ := World.cells?_some (hf ⟨i, hil⟩)
    have hj : j < sz := by
      have := (List.getElem?_eq_some_iff.1 hu).1
      omega
    have h3 := hat1 j hj
    rw [hu, ha, add_plain, add_plain] at h3
    exact h3

theorem fields_of {e : TypeId} {fs : Array Field} {n : Nat} {cs : List Value} {y : DataW H × List MemPlace} (hs : P.underlying e = some (.struct fs)) (hone : oneCellFields P fs = true) (hc : P.cellsOf e = fs.size)
    (h : DataW.trod enc P w base spare held n e cs = some y) : cs.length = fs.size ∧ ∃ m, ∀ (i : Nat) (f : Field), fs[i]? = some f → ∃ v z, cs[i]? = some v ∧ DataW.trod enc P w base spare held m f.type [v] = some z := by
  obtain ⟨xs, m, -, -, hl, hx, hf⟩ := DataW.trod_struct hs h
  rw [hc] at hl
  refine ⟨hl, m, fun i f hi => ?_⟩
  obtain ⟨ho, hk⟩ := hone_of hone i f hi
  have hlt : i < fs.size := (Array.getElem?_eq_some_iff.1 hi).1
  have h1 := hf i f hi
  rw [ho, hk] at h1
  have h2 : (cs.drop i).take 1 = [cs[i]'(by omega)] := by rw [List.drop_eq_getElem_cons (by omega)]; rfl
  rw [h2] at h1
  have h3 : xs[i]? = some (xs[i]'(by omega)) := List.getElem?_eq_getElem (by omega)
  exact ⟨_, _, List.getElem?_eq_getElem (by omega), h1.trans h3⟩

theorem row4 {e : TypeId} {f0 f1 f2 f3 : Field} {n : Nat} {cs : List Value} {y : DataW H × List MemPlace} (hs : P.underlying e = some (.struct #[f0, f1, f2, f3])) (hone : oneCellFields P #[f0, f1, f2, f3] = true) (hc : P.cellsOf e = 4)
    (t0 : P.underlying f0.type = some (.int .i64)) (t1 : P.underlying f1.type = some (.int .i64)) (t2 : P.underlying f2.type = some (.int .i64)) (t3 : P.underlying f3.type = some (.int .i64))
    (h : DataW.trod enc P w base spare held n e cs = some y) : ∃ a : I4, cs = en4 a := by
  obtain ⟨hl, m, hf⟩ := fields_of hs hone hc h
  match cs, hl with
  | [c0, c1, c2, c3], _ =>
    obtain ⟨v0, z0, e0, k0⟩ := hf 0 f0 rfl
    obtain ⟨v1, z1, e1, k1⟩ := hf 1 f1 rfl
    obtain ⟨v2, z2, e2, k2⟩ := hf 2 f2 rfl
    obtain ⟨v3, z3, e3, k3⟩ := hf 3 f3 rfl
    simp only [List.getElem?_cons_zero, List.getElem?_cons_succ, Option.some.injEq] at e0 e1 e2 e3
    subst e0 e1 e2 e3
    obtain ⟨a0, r0, -⟩ := DataW.trod_int t0 k0
    obtain ⟨a1, r1, -⟩ := DataW.trod_int t1 k1
    obtain ⟨a2, r2, -⟩ := DataW.trod_int t2 k2
    obtain ⟨a3, r3, -⟩ := DataW.trod_int t3 k3
    simp only [List.cons.injEq, and_true] at r0 r1 r2 r3
    subst r0 r1 r2 r3
    exact ⟨⟨a0, a1, a2, a3⟩, rfl⟩

theorem row3 {e : TypeId} {f0 f1 f2 : Field} {n : Nat} {cs : List Value} {y : DataW H × List MemPlace} (hs : P.underlying e = some (.struct #[f0, f1, f2])) (hone : oneCellFields P #[f0, f1, f2] = true) (hc : P.cellsOf e = 3)
    (t0 : P.underlying f0.type = some (.int .i64)) (t1 : P.underlying f1.type = some (.int .i64)) (t2 : P.underlying f2.type = some .string)
    (h : DataW.trod enc P w base spare held n e cs = some y) : ∃ a : V3, cs = en3 a := by
  obtain ⟨hl, m, hf⟩ := fields_of hs hone hc h
  match cs, hl with
  | [c0, c1, c2], _ =>
    obtain ⟨v0, z0, e0, k0⟩ := hf 0 f0 rfl
    obtain ⟨v1, z1, e1, k1⟩ := hf 1 f1 rfl
    obtain ⟨v2, z2, e2, k2⟩ := hf 2 f2 rfl
    simp only [List.getElem?_cons_zero, List.getElem?_cons_succ, Option.some.injEq] at e0 e1 e2
    subst e0 e1 e2
    obtain ⟨a0, r0, -⟩ := DataW.trod_int t0 k0
    obtain ⟨a1, r1, -⟩ := DataW.trod_int t1 k1
    obtain ⟨a2, r2, -⟩ := DataW.trod_string t2 k2
    simp only [List.cons.injEq, and_true] at r0 r1 r2
    subst r0 r1 r2
    exact ⟨⟨a0, a1, a2⟩, rfl⟩
end
end Go.Proofs.Ytmbaennilhdieaa
