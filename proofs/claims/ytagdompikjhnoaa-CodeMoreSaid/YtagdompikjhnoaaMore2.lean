/- CodeMore: rows of four integers that a program makes by append. -/
import Derived.Test.YtagdompikjhnoaaRightLaw
import Derived.Test.YtagdompikjhnoaaMore
import Derived.Test.YtagdompikjhnoaaSameLaw
import Derived.Deep.Upon
namespace Go.Proofs.Ytagdompikjhnoaa
open Go.RowKit

theorem flat_len (xs : List I4) : (xs.flatMap en4).length = xs.length * 4 := by
  induction xs with
  | nil => rfl
  | cons x xs ih => rw [List.flatMap_cons, List.length_append, ih]; simp [en4]; omega
theorem flat_get : ∀ (xs : List I4) (i : Nat) (x : I4) (j : Nat) (u : Value), xs[i]? = some x → (en4 x)[j]? = some u → (xs.flatMap en4)[i * 4 + j]? = some u
  | [], _, _, _, _, h, _ => by simp at h
  | y :: xs, 0, x, j, u, h, hu => by
    simp only [List.getElem?_cons_zero, Option.some.injEq] at h
    subst h
    have hj : j < (en4 y).length := (List.getElem?_eq_some_iff.1 hu).1
    rw [List.flatMap_cons, Nat.zero_mul, Nat.zero_add, List.getElem?_append_left hj]
    exact hu
  | y :: xs, i + 1, x, j, u, h, hu => by
    simp only [List.getElem?_cons_succ] at h
    have e : (i + 1) * 4 + j = (en4 y).length + (i * 4 + j) := by simp [en4]; omega
    rw [List.flatMap_cons, e, List.getElem?_append_right (by omega), Nat.add_sub_cancel_left]
    exact flat_get xs i x j u h hu
theorem flat_split (xs : List I4) (j : Nat) (u : Value) (h : (xs.flatMap en4)[j]? = some u) : ∃ x, xs[j / 4]? = some x ∧ (en4 x)[j % 4]? = some u := by
  have hj := (List.getElem?_eq_some_iff.1 h).1
  rw [flat_len] at hj
  have hi : j / 4 < xs.length := by omega
  have hx := List.getElem?_eq_getElem hi
  have hk : j % 4 < (en4 xs[j / 4]).length := by simp [en4]; omega
  have hu := List.getElem?_eq_getElem hk
  have := flat_get xs _ _ _ _ hx hu
  rw [show j / 4 * 4 + j % 4 = j by omega, h] at this
  exact ⟨_, hx, hu.trans this.symm⟩
theorem flat_one (xs : List I4) : ∀ u ∈ xs.flatMap en4, u.oneCell' = true := by
  intro u hu
  obtain ⟨x, -, hx⟩ := List.mem_flatMap.1 hu
  simp only [en4, List.mem_cons, List.not_mem_nil, or_false] at hx
  rcases hx with rfl | rfl | rfl | rfl <;> rfl

theorem sl_of_own4 {w : World} {base : Nat} {v : Value} {xs : List I4} (h : w.ownsRow base 42 4 v xs.length (xs.flatMap en4)) : Sl w 4 en4 v xs := by
  rcases h.2 with ⟨rfl, hn⟩ | ⟨g, cap, cur, rfl, -, hh, hn, hm, hs, ht⟩
  · have : xs = [] := List.eq_nil_of_length_eq_zero hn
    subst this
    exact ⟨none, 0, rfl, Nat.le_refl _, by omega, fun h => absurd h (by simp)⟩
  · unfold maxLen at hm
    refine ⟨some ⟨g, 0, none⟩, cap, rfl, hn, hm, fun h0 => ⟨g, 0, rfl, Blk.lt (t := 42) hh, fun i x hi j u hu => ?_⟩⟩
    have hb : Blk w g 42 cur := hh
    have hil : i < xs.length := (List.getElem?_eq_some_iff.1 hi).1
    have hj : j < 4 := (List.getElem?_eq_some_iff.1 hu).1
    have e1 := flat_get xs i x j u hi hu
    rw [← ht, List.getElem?_take, if_pos (by omega), Array.getElem?_toList] at e1
    rw [hb.cells, show 0 + i * 4 + j = i * 4 + j by omega]
    exact e1

theorem own_form4 {w : World} {base e sz : Nat} {v : Value} {n : Nat} {xs : List Value} (hown : w.ownsRow base e sz v n xs) : ∃ A k, v = .slice A n k := by
  rcases hown.2 with ⟨rfl, rfl⟩ | ⟨g, cap, cur, rfl, -⟩
  · exact ⟨none, 0, rfl⟩
  · exact ⟨_, cap, rfl⟩
theorem own_base4 {w : World} {base e sz : Nat} {v : Value} {n : Nat} {xs : List Value} (hown : w.ownsRow base e sz v n xs) : ∀ k, v.ownBlock = some k → base ≤ k := by
  intro k hk
  exact (hown.lt k hk).1

theorem wpList_append_len0 {P : Program} {w : World} {ops : Array Oper} {rest : List Oper} {o : Oper} {a : Act} {Q : Exit → Act → World → Prop} (hgd : o.guard = none) (s x : Operand) (t : TypeId)
    (ho : o.op = .call { callee := .builtin .append, args := #[s, x], argTypes := #[t, t] }) (e : TypeId) (i : TypeInfo) (ht : P.underlying t = some (.slice e)) (hi : P.info? e = some i)
    (A0 : Option Addr) (n0 c0 : Nat) (hs : a.eval s = .slice A0 n0 c0) (hle : n0 ≤ c0) (hx : ∃ A c, a.eval x = .slice A 0 c)
    (h : ∀ v', v' = .slice A0 n0 c0 → wpList P ops Q rest (a.put o.dst v') w) : wpList P ops Q (o :: rest) a w := by
  obtain ⟨A, c, hx⟩ := hx
  refine wpList_plain hgd fun K hK => ?_
  have hsrc : Src P i.size t (.slice A 0 c) 0 [] w := by
    refine ⟨.inl ⟨e, ht⟩, fun _ => by simp [Builtin.lenOf], ?_, ?_, by simp, fun u hu => by cases hu⟩ <;> cases A <;> simp [Builtin.firstCells, loadCells, loadCellsFrom]
  have hrun := run_append_nothing (P := P) w t t o.type e i ht hi A0 n0 c0 hle _ hsrc
  unfold Oper.wp
  simp [execOp, ho, resolve, invoke, builtin, hs, hx, hrun, Result.andThen]
  exact hK _ _ (h _ rfl)
theorem at_add (b o j : Nat) : (⟨b, o, none⟩ : Addr).add j = ⟨b, o + j, none⟩ := by unfold Addr.add; split <;> simp_all
theorem own_set4 {w : World} {base e sz : Nat} {v : Value} {n : Nat} {xs : List Value} (hown : w.ownsRow base e sz v n xs) {p : Nat} (hp : p < base) (i : Nat) (u : Value) : (w.setCell ⟨p, i, none⟩ u).ownsRow base e sz v n xs := by
  refine ⟨hown.1, ?_⟩
  rcases hown.2 with h | ⟨g, cap, cur, e, hg, hh, r⟩
  · exact .inl h
  · exact .inr ⟨g, cap, cur, e, hg, (Below.heap_setCell w ⟨p, i, none⟩ u g (by show g ≠ p; omega)).trans hh, r⟩
theorem Blk.put {w : World} {b : Nat} {t : TypeId} {cs : Array Value} (h : Blk w b t cs) (j : Nat) (u : Value) : Blk (w.setCell ⟨b, j, none⟩ u) b t (cs.setIfInBounds j u) := by
  unfold Blk at h ⊢
  simp [World.setCell, Array.getElem?_modify, h]
theorem and63 (m : Int) : 0 ≤ bits .and .i64 m 63 ∧ bits .and .i64 m 63 ≤ 63 := by
  unfold bits
  simp only [BitVec.toNat_and, BitVec.toNat_ofInt]
  have h : ∀ a : Nat, a &&& 63 ≤ 63 := fun a => Nat.and_le_right
  have e : ((63 : Int) % ((2 ^ IntKind.bits .i64 : Nat) : Int)).toNat = 63 := by decide
  rw [e]
  have h1 := h (m % ((2 ^ IntKind.bits .i64 : Nat) : Int)).toNat
  generalize (m % ((2 ^ IntKind.bits .i64 : Nat) : Int)).toNat &&& 63 = z at h1
  have e2 : IntKind.wrap .i64 (z : Int) = z := by
    unfold IntKind.wrap
    have : ((z : Int) % (2 ^ IntKind.bits .i64 : Int)) = z := by
      have : (2 ^ IntKind.bits .i64 : Int) = 18446744073709551616 := by decide
      rw [this]; omega
    simp only [this]
    have : (2 ^ (IntKind.bits .i64 - 1) : Int) = 9223372036854775808 := by decide
    rw [this, if_neg]
    simp
    omega
  rw [e2]
  omega
theorem regs_in {c : CodeD} (h : rightB c = true) : 0 ≤ c.regs ∧ c.regs ≤ 4096 := by
  unfold rightB preB at h
  simp only [Bool.and_eq_true] at h
  have := h.1.1.1.1.1.1.1.2
  simpa [inB] using this
theorem inRange_more {c : CodeD} {r : Int} (h : InRange c) : InRange (moreC c r) := by
  intro x hx
  rcases List.mem_append.1 hx with hx | hx
  · exact h x hx
  · rw [List.mem_singleton.1 hx]; exact ⟨by decide, by decide, by decide⟩
theorem halt_here {G : Prop} (h : ∀ _ : Unit, G) : G := h ()
theorem insInfo : (Try.prog.info? 42).map (fun i => (i.zero, i.size, i.bytes)) = some (some (.agg #[.int .i64 0, .int .i64 0, .int .i64 0, .int .i64 0]), 4, 32) := by kernel_rfl
end Go.Proofs.Ytagdompikjhnoaa
