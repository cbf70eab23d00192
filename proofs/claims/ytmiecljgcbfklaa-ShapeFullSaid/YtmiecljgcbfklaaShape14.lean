/- Shapes: equality of shapes; readings of arguments. -/
import Derived.Test.YtmiecljgcbfklaaShape13
import Derived.Test.YtmiecljgcbfklaaRead
import Derived.ProofKit
namespace Go.Proofs.Ytmiecljgcbfklaa
open Go.RowKit Go.ChangeShapes Go.WideShapes Go.Deep Go.ChangeAt

theorem guardSh : Try.prog.eqGuardType Try.prog.depth 37 = false := by kernel_rfl
theorem equal_shape (x y : ShD) (w : World) : (Op.equalIn 10000 37 (.agg (enS x).toArray) (.agg (enS y).toArray)).run Try.prog w = .ok (decide (x = y)) w := by
  obtain ⟨u, ⟨a, b, s⟩, c, l⟩ := x
  obtain ⟨u', ⟨a', b', s'⟩, c', l'⟩ := y
  show (Op.equalIn 10000 37 (.agg #[.int .i64 u, .int .i64 a, .int .i64 b, .string s, .int .i64 c, .int .i64 l]) (.agg #[.int .i64 u', .int .i64 a', .int .i64 b', .string s', .int .i64 c', .int .i64 l'])).run Try.prog w = _
  go_simp
  simp only [bytes_eq]
  by_cases h1 : a = a' <;> by_cases h2 : b = b' <;> by_cases h3 : s = s' <;> by_cases h4 : u = u' <;> by_cases h5 : c = c' <;> by_cases h6 : l = l' <;> simp [h1, h2, h3, h4, h5, h6]
section
variable {s : Env} {C : World → Prop} {d : Option Nat} {ty : TypeId} {pos : String} {af : Array Edge} {gd : Option (Nat × Bool)}
theorem ev_sheq {u : TypeId} {x y : Operand} {k k' : ShD} (hx : evE s x = some (.agg (enS k).toArray)) (hy : evE s y = some (.agg (enS k').toArray)) : Ev Try.prog s C ⟨d, .binOp .eql 37 x y u, ty, pos, af, gd⟩ (.bool (decide (k = k'))) :=
  ev_bin hx hy fun w => by
    rw [Sem.run_bind, run_eqGuard_agg w _ _ _ _ _ _ guardSh]
    simp only [Result.andThen_ok]
    rw [run_eql_struct, equal_shape]
    rfl
theorem ev_shsame {u : TypeId} {x y : Operand} {k : ShD} (hx : evE s x = some (.agg (enS k).toArray)) (hy : evE s y = some (.agg (enS k).toArray)) : Ev Try.prog s C ⟨d, .binOp .eql 37 x y u, ty, pos, af, gd⟩ (.bool true) := by
  have h := ev_sheq (C := C) (d := d) (ty := ty) (pos := pos) (af := af) (gd := gd) (u := u) hx hy
  simpa using h
theorem ev_shsameN {u : TypeId} {x y : Operand} {k : ShD} (hx : evE s x = some (.agg (enS k).toArray)) (hy : evE s y = some (.agg (enS k).toArray)) : Ev Try.prog s C ⟨d, .binOp .neq 37 x y u, ty, pos, af, gd⟩ (.bool false) :=
  ev_bin hx hy fun w => by
    rw [Sem.run_bind, run_eqGuard_agg w _ _ _ _ _ _ guardSh]
    simp only [Result.andThen_ok]
    rw [run_neq_struct, equal_shape]
    simp
end
section
variable {H : Type} {enc : TypeId × Value → H} {w : World} {base : Nat} {spare : Nat → Bool} {held : Bool}
theorem act_of {n : Nat} {cs : List Value} {y : DataW H × List MemPlace} (h : DataW.trod enc Try.prog w base spare held n 33 cs = some y) : ∃ x : ActD, cs = enA x := by
  obtain ⟨xs, m, -, -, hl, hx, hf⟩ := DataW.trod_struct Try.underlying33 h
  have hl' : cs.length = 6 := hl
  match cs, hl' with
  | [c0, c1, c2, c3, c4, c5], _ =>
    have hn : ∀ i, i < 4 → ∃ z, xs[i]? = some z := fun i hi => ⟨_, List.getElem?_eq_getElem (by rw [hx]; exact hi)⟩
    obtain ⟨z0, e0⟩ := hn 0 (by decide)
    obtain ⟨z1, e1⟩ := hn 1 (by decide)
    obtain ⟨z2, e2⟩ := hn 2 (by decide)
    obtain ⟨z3, e3⟩ := hn 3 (by decide)
    have h0 : DataW.trod enc Try.prog w base spare held m 3 [c0] = some z0 := (hf 0 _ rfl).trans e0
    have h1 : DataW.trod enc Try.prog w base spare held m 3 [c1] = some z1 := (hf 1 _ rfl).trans e1
    have h2 : DataW.trod enc Try.prog w base spare held m 31 [c2, c3, c4] = some z2 := (hf 2 _ rfl).trans e2
    have h3 : DataW.trod enc Try.prog w base spare held m 3 [c5] = some z3 := (hf 3 _ rfl).trans e3
    obtain ⟨a0, r0, -⟩ := DataW.trod_int Try.underlying3 h0
    obtain ⟨a1, r1, -⟩ := DataW.trod_int Try.underlying3 h1
    obtain ⟨a3, r3, -⟩ := DataW.trod_int Try.underlying3 h3
    obtain ⟨k, r2⟩ := row3 Try.underlying31 (by kernel_rfl) (by kernel_rfl) Try.underlying3 Try.underlying3 Try.underlying9 h2
    simp only [List.cons.injEq, and_true] at r0 r1 r3
    subst r0 r1 r3
    refine ⟨⟨a0, a1, k, a3⟩, ?_⟩
    unfold en3 at r2
    simp only [List.cons.injEq, and_true] at r2
    obtain ⟨rfl, rfl, rfl⟩ := r2
    rfl
end
theorem isAct_of_trod {H : Type} {enc : TypeId × Value → H} {W : World} {r : Reach} {b0 : Nat} {base : Nat} {spare : Nat → Bool} {held : Bool} {v : Value} {d : DataW H} {p : List MemPlace}
    (hv : Value.okWide Try.prog W r b0 33 v) (h : DataW.Trod enc Try.prog W base spare held 33 v d p) : ∃ x : ActD, v = .agg (enA x).toArray := by
  obtain ⟨cs, rfl, -⟩ := okWide_struct Try.underlying33 hv
  obtain ⟨fuel, hf⟩ := h
  obtain ⟨x, hx⟩ := act_of hf
  refine ⟨x, ?_⟩
  obtain ⟨l⟩ := cs
  have hx' : l = enA x := hx
  rw [hx']
theorem sqA_of_sl {α : Type} {w : World} {sz : Nat} {en : α → List Value} {A : Option Addr} {n c : Nat} {xs : List α} (h : Sl w sz en (.slice A n c) xs) (hp : ∀ x, 0 < (en x).length) : n = xs.length ∧ xs.length ≤ c ∧ c ≤ 9223372036854775807 ∧ ∃ t, SqA w t sz en A xs := by
  obtain ⟨h1, h2, h3, h4⟩ := h.opened
  refine ⟨h1, h2, h3, ?_⟩
  by_cases h0 : 0 < xs.length
  · obtain ⟨b, o, rfl, hlt, hx⟩ := h4 h0
    have hget : xs[0]? = some (xs[0]) := List.getElem?_eq_getElem h0
    have hc := hx 0 _ hget 0 _ (List.getElem?_eq_getElem (hp _))
    have : ∃ cs t fz, w.heap[b]? = some (.cells cs t fz) := by
      unfold World.cell? at hc
      split at hc
      · rename_i cs t fz hh; exact ⟨cs, t, fz, hh⟩
      · cases hc
    obtain ⟨cs, t, fz, hh⟩ := this
    exact ⟨t, fun _ => rfl, fun _ => ⟨cs, fz, hh⟩, fun {i x} hi j u hu => hx i x hi j u hu⟩
  · have : xs = [] := List.eq_nil_of_length_eq_zero (by omega)
    subst this
    exact ⟨0, sqA_nil ..⟩
theorem isActs_of_trod {H : Type} {enc : TypeId × Value → H} {W : World} {r : Reach} {b0 : Nat} {base : Nat} {spare : Nat → Bool} {held : Bool} {v : Value} {d : DataW H} {p : List MemPlace}
    (hv : Value.okWide Try.prog W r b0 22 v) (h : DataW.Trod enc Try.prog W base spare held 22 v d p) : ∃ (A : Option Addr) (c : Nat) (xs : List ActD) (t : TypeId), v = .slice A xs.length c ∧ xs.length ≤ c ∧ c ≤ 9223372036854775807 ∧ SqA W t 6 enA A xs := by
  obtain ⟨A, n, c, rfl⟩ := okWide_slice Try.underlying22 hv
  obtain ⟨fuel, hf⟩ := h
  obtain ⟨v', xs, e, hs⟩ := sl_of_trod 6 enA Try.underlying22 (by kernel_rfl) (by decide) (fun n cs' y hy => act_of hy) hf
  have e' : [Value.slice A n c] = [v'] := e
  injection e' with e1
  subst e1
  obtain ⟨rfl, h2, h3, t, h4⟩ := sqA_of_sl hs (fun x => by show 0 < 6; decide)
  exact ⟨A, c, xs, t, rfl, h2, h3, h4⟩
end Go.Proofs.Ytmiecljgcbfklaa
