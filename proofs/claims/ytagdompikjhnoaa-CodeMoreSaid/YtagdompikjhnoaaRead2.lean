/- An argument's reading, with the range of its integers. Over any program. -/
import Derived.Test.YtagdompikjhnoaaRead
import Derived.OpenShut
namespace Go.Proofs.Ytagdompikjhnoaa
open Go.RowKit Go.ChangeShapes Go.WideShapes Go.Deep

theorem bounds_i64 {n : Int} (h : (Lit.int .i64 n).wf = true) : -9223372036854775808 ≤ n ∧ n ≤ 9223372036854775807 := by
  simpa [Lit.wf, IntKind.min, IntKind.max, IntKind.signed, IntKind.bits] using h
/-- every integer of the row fits 64 bits -/
def R4 (x : I4) : Prop := (-9223372036854775808 ≤ x.a ∧ x.a ≤ 9223372036854775807) ∧ (-9223372036854775808 ≤ x.b ∧ x.b ≤ 9223372036854775807) ∧ (-9223372036854775808 ≤ x.c ∧ x.c ≤ 9223372036854775807) ∧ (-9223372036854775808 ≤ x.d ∧ x.d ≤ 9223372036854775807)

section
variable {H : Type} {enc : TypeId × Value → H} {P : Program} {w : World} {base : Nat} {spare : Nat → Bool} {held : Bool}

theorem sl_of_trod2 {α : Type} (sz : Nat) (en : α → List Value) (p : α → Prop) {t e : TypeId} {fuel : Nat} {cs : List Value} {x : DataW H × List MemPlace} (ht : P.underlying t = some (.slice e)) (hsz : P.cellsOf e = sz) (hpos : 0 < sz)
    (hel : ∀ (n : Nat) (cs' : List Value) (y : DataW H × List MemPlace), DataW.trod enc P w base spare held n e cs' = some y → ∃ a : α, cs' = en a ∧ p a)
    (h : DataW.trod enc P w base spare held fuel t cs = some x) : ∃ v xs, cs = [v] ∧ Sl w sz en v xs ∧ ∀ x ∈ xs, p x := by
  rcases open_slice ht h with ⟨rfl, -⟩ | ⟨a, len, cap, m, n, D, Pl, rfl, hb, hl, hm, hmm, -, hi⟩
  · exact ⟨.slice none 0 0, [], rfl, ⟨none, 0, rfl, Nat.le_refl _, by omega, fun h => absurd h (by simp)⟩, by simp⟩
  · have hlm : len ≤ m := by rw [hmm]; split <;> omega
    rw [hsz] at hi
    have key : ∀ i : Fin len, ∃ a' : α, w.cells? base (a.add (i * sz)) sz = some (en a') ∧ p a' := fun i => by
      obtain ⟨cs', h1, h2⟩ := hi i (by omega)
      obtain ⟨a', rfl, ha'⟩ := hel _ _ _ h2
      exact ⟨a', h1, ha'⟩
    let f : Fin len → α := fun i => Classical.choose (key i)
    have hf : ∀ i : Fin len, w.cells? base (a.add (i * sz)) sz = some (en (f i)) := fun i => (Classical.choose_spec (key i)).1
    have hpf : ∀ i : Fin len, p (f i) := fun i => (Classical.choose_spec (key i)).2
    have hlen : (List.ofFn f).length = len := by simp
    unfold maxLen at hm
    refine ⟨_, List.ofFn f, rfl, ⟨some a, cap, by rw [hlen], by rw [hlen]; exact hl, hm, fun h0 => ?_⟩, fun x hx => by obtain ⟨i, rfl⟩ := List.mem_ofFn.1 hx; exact hpf i⟩
    rw [hlen] at h0
    obtain ⟨-, hl0, hat0⟩ := World.cells?_some (hf ⟨0, h0⟩)
    have hc0 := hat0 0 hpos
    have hz : (en (f ⟨0, h0⟩))[0]? = some ((en (f ⟨0, h0⟩))[0]'(by omega)) := List.getElem?_eq_getElem (by omega)
    rw [hz] at hc0
    have ha0 : (a.add ((⟨0, h0⟩ : Fin len) * sz)).add 0 = a := by simp [Addr.add]
    rw [ha0] at hc0
    have ha := plain_of_cell hc0
    refine ⟨a.block, a.off, by rw [← ha], block_lt_of_cell hc0, fun i x' hx j u hu => ?_⟩
    have hil : i < len := by
      have := (List.getElem?_eq_some_iff.1 hx).1
      omega
    have hx' : x' = f ⟨i, hil⟩ := by
      rw [List.getElem?_ofFn] at hx
      simp [hil] at hx
      exact hx.symm
    subst hx'
    obtain ⟨-, hl1, hat1⟩ := World.cells?_some (hf ⟨i, hil⟩)
    have hj : j < sz := by
      have := (List.getElem?_eq_some_iff.1 hu).1
      omega
    have h3 := hat1 j hj
    rw [hu, ha, add_plain, add_plain] at h3
    exact h3

theorem row4r {e : TypeId} {f0 f1 f2 f3 : Field} {n : Nat} {cs : List Value} {y : DataW H × List MemPlace} (hs : P.underlying e = some (.struct #[f0, f1, f2, f3])) (hone : oneCellFields P #[f0, f1, f2, f3] = true) (hc : P.cellsOf e = 4)
    (t0 : P.underlying f0.type = some (.int .i64)) (t1 : P.underlying f1.type = some (.int .i64)) (t2 : P.underlying f2.type = some (.int .i64)) (t3 : P.underlying f3.type = some (.int .i64))
    (h : DataW.trod enc P w base spare held n e cs = some y) : ∃ a : I4, cs = en4 a ∧ R4 a := by
  obtain ⟨hl, m, hf⟩ := fields_of hs hone hc h
  match cs, hl with
  | [c0, c1, c2, c3], _ =>
    obtain ⟨v0, z0, e0, k0⟩ := hf 0 f0 rfl
    obtain ⟨v1, z1, e1, k1⟩ := hf 1 f1 rfl
    obtain ⟨v2, z2, e2, k2⟩ := hf 2 f2 rfl
    obtain ⟨v3, z3, e3, k3⟩ := hf 3 f3 rfl
    simp only [List.getElem?_cons_zero, List.getElem?_cons_succ, Option.some.injEq] at e0 e1 e2 e3
    subst e0 e1 e2 e3
    obtain ⟨a0, r0, -, u0⟩ := DataW.trod_int t0 k0
    obtain ⟨a1, r1, -, u1⟩ := DataW.trod_int t1 k1
    obtain ⟨a2, r2, -, u2⟩ := DataW.trod_int t2 k2
    obtain ⟨a3, r3, -, u3⟩ := DataW.trod_int t3 k3
    simp only [List.cons.injEq, and_true] at r0 r1 r2 r3
    subst r0 r1 r2 r3
    exact ⟨⟨a0, a1, a2, a3⟩, rfl, (bounds_i64 u0), (bounds_i64 u1), (bounds_i64 u2), (bounds_i64 u3)⟩

end
end Go.Proofs.Ytagdompikjhnoaa
