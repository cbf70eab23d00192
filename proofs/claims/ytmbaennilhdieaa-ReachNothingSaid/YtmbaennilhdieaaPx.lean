/- Plain tools for translated functions: results in Option, loops with fuel. Over any program. -/
import Derived.Test.YtmbaennilhdieaaA11
namespace Go.Proofs.Ytmbaennilhdieaa
open Go.RowKit

/-- m ends, and its value satisfies R -/
def Sat {ρ : Type} (m : Option ρ) (R : ρ → Prop) : Prop := ∃ r, m = some r ∧ R r
theorem sat_some {ρ : Type} {x : ρ} {R : ρ → Prop} (h : R x) : Sat (some x) R := ⟨x, rfl, h⟩
theorem Sat.eq {ρ : Type} {m : Option ρ} {x : ρ} (h : Sat m (· = x)) : m = some x := by obtain ⟨r, h1, rfl⟩ := h; exact h1
theorem Sat.mono {ρ : Type} {m : Option ρ} {R Q : ρ → Prop} (h : Sat m R) (k : ∀ x, R x → Q x) : Sat m Q := by obtain ⟨r, h1, h2⟩ := h; exact ⟨r, h1, k _ h2⟩
theorem Sat.bind {ρ σ : Type} {m : Option σ} {f : σ → Option ρ} {P : σ → Prop} {R : ρ → Prop} (h : Sat m P) (k : ∀ x, P x → Sat (f x) R) : Sat (m.bind f) R := by obtain ⟨x, rfl, h2⟩ := h; exact k x h2
theorem sat_cond {ρ : Type} {b : Bool} {x y : Option ρ} {R : ρ → Prop} (h1 : b = true → Sat x R) (h2 : b = false → Sat y R) : Sat (bif b then x else y) R := by cases b with | true => exact h1 rfl | false => exact h2 rfl
theorem sat_dec {ρ : Type} {p : Prop} [Decidable p] {x y : Option ρ} {R : ρ → Prop} (h1 : p → Sat x R) (h2 : ¬ p → Sat y R) : Sat (bif decide p then x else y) R := by
  by_cases h : p
  · rw [decide_eq_true h]; exact h1 h
  · rw [decide_eq_false h]; exact h2 h
theorem sat_not {ρ : Type} {b : Bool} {x y : Option ρ} {R : ρ → Prop} (h1 : b = false → Sat x R) (h2 : b = true → Sat y R) : Sat (bif !b then x else y) R := by cases b with | true => exact h2 rfl | false => exact h1 rfl
/-! (no rfl-lemmas: simp's implicit proofs by unfolding are too deep for the kernel) -/
theorem bs {ρ σ : Type} {x : σ} {f : σ → Option ρ} : (some x).bind f = f x := Eq.trans rfl rfl
theorem ct {ρ : Type} {x y : ρ} : (bif true then x else y) = x := Eq.trans rfl rfl
theorem cf {ρ : Type} {x y : ρ} : (bif false then x else y) = y := Eq.trans rfl rfl
theorem nt : (!true) = false := Eq.trans rfl rfl
theorem nf : (!false) = true := Eq.trans rfl rfl
theorem lt_t {a b : Int} (h : a < b) : decide (a < b) = true := decide_eq_true h
theorem lt_f {a b : Int} (h : b ≤ a) : decide (a < b) = false := decide_eq_false (by omega)
theorem le_t {a b : Int} (h : a ≤ b) : decide (a ≤ b) = true := decide_eq_true h
theorem le_f {a b : Int} (h : b < a) : decide (a ≤ b) = false := decide_eq_false (by omega)
theorem eq_t {a b : Int} (h : a = b) : decide (a = b) = true := decide_eq_true h
theorem eq_f {a b : Int} (h : a ≠ b) : decide (a = b) = false := decide_eq_false h
theorem req_t {ρ : Type} {b : Prop} [Decidable b] {m : Option ρ} (h : b) : req b m = m := if_pos h
theorem r64 {ρ : Type} {a : Int} {m : Option ρ} (h1 : -9000000000000000000 ≤ a) (h2 : a ≤ 9000000000000000000) : req (in64 a) m = m := if_pos ⟨by omega, by omega⟩
theorem rF {ρ : Type} {n : Nat} {m : Option ρ} (h : n ≤ 1000000) : req (fitsL n) m = m := if_pos (by unfold fitsL; omega)
theorem getE_at {α : Type} {xs : List α} {i : Int} (h0 : 0 ≤ i) (h1 : i.toNat < xs.length) : getE xs i = some xs[i.toNat] := by
  unfold getE
  rw [if_neg (by omega), List.getElem?_eq_getElem h1]
theorem getE_n {α : Type} {xs : List α} {i : Nat} (h1 : i < xs.length) : getE xs (i : Int) = some xs[i] := by
  unfold getE
  rw [if_neg (by omega), Int.toNat_natCast, List.getElem?_eq_getElem h1]

/-- a loop that counts up to n: an invariant, and the rest of the loop as a way to go on -/
theorem loop_inv {σ ρ : Type} (L : Nat → Nat → σ → Option ρ) (n : Nat) (Inv : Nat → σ → Prop) (R : ρ → Prop)
    (round : ∀ m i s, i < n → Inv i s → (∀ s', Inv (i + 1) s' → Sat (L m (i + 1) s') R) → Sat (L (m + 1) i s) R)
    (fin : ∀ m s, Inv n s → Sat (L (m + 1) n s) R) : ∀ m i s, n < m + i → i ≤ n → Inv i s → Sat (L m i s) R
  | 0, i, s, h, h2, _ => by omega
  | m + 1, i, s, h, h2, hi => by
    by_cases e : i = n
    · subst e; exact fin m s hi
    · exact round m i s (by omega) hi fun s' h' => loop_inv L n Inv R round fin m (i + 1) s' (by omega) (by omega) h'
/-- the same without a state -/
theorem loop_inv0 {ρ : Type} (L : Nat → Nat → Option ρ) (n : Nat) (Inv : Nat → Prop) (R : ρ → Prop)
    (round : ∀ m i, i < n → Inv i → (Inv (i + 1) → Sat (L m (i + 1)) R) → Sat (L (m + 1) i) R)
    (fin : ∀ m, Inv n → Sat (L (m + 1) n) R) (m i : Nat) (h : n < m + i) (h2 : i ≤ n) (hi : Inv i) : Sat (L m i) R :=
  loop_inv (fun m i (_ : Unit) => L m i) n (fun i _ => Inv i) R (fun m i _ h1 h2 h3 => round m i h1 h2 (h3 ())) (fun m _ => fin m) m i () h h2 hi
/-- a loop whose number goes down by itself -/
theorem loop_dec {σ ρ : Type} (L : Nat → σ → Option ρ) (v : σ → Nat) (Inv : σ → Prop) (R : ρ → Prop)
    (round : ∀ m s, Inv s → (∀ s', v s' < v s → Inv s' → Sat (L m s') R) → Sat (L (m + 1) s) R) : ∀ m s, v s < m → Inv s → Sat (L m s) R
  | 0, _, h, _ => by omega
  | m + 1, s, h, hi => round m s hi fun s' h1 h2 => loop_dec L v Inv R round m s' (by omega) h2

theorem take_succ_get {α : Type} {l : List α} {i : Nat} (h : i < l.length) : l.take (i + 1) = l.take i ++ [l[i]] := by
  rw [List.take_add_one, List.getElem?_eq_getElem h]; rfl
/-- two ascending lists with the same elements are equal -/
theorem asc_ext : ∀ {a b : List Int}, a.Pairwise (· < ·) → b.Pairwise (· < ·) → (∀ x, x ∈ a ↔ x ∈ b) → a = b
  | [], [], _, _, _ => rfl
  | [], y :: b, _, _, h => by have := (h y).2 (by simp); cases this
  | x :: a, [], _, _, h => by have := (h x).1 (by simp); cases this
  | x :: a, y :: b, ha, hb, h => by
    obtain ⟨ha1, ha2⟩ := List.pairwise_cons.1 ha
    obtain ⟨hb1, hb2⟩ := List.pairwise_cons.1 hb
    have e : x = y := by
      rcases List.mem_cons.1 ((h x).1 (by simp)) with e | h1
      · exact e
      · rcases List.mem_cons.1 ((h y).2 (by simp)) with e | h2
        · exact e.symm
        · have := hb1 x h1; have := ha1 y h2; omega
    subst e
    rw [asc_ext ha2 hb2 fun z => ?_]
    constructor
    · intro hz
      rcases List.mem_cons.1 ((h z).1 (by simp [hz])) with e | h1
      · subst e; exact absurd (ha1 z hz) (by omega)
      · exact h1
    · intro hz
      rcases List.mem_cons.1 ((h z).2 (by simp [hz])) with e | h1
      · subst e; exact absurd (hb1 z hz) (by omega)
      · exact h1
theorem fp_mem {α β : Type} [DecidableEq α] (a : α) (L : List (α × β)) : (∃ i b, fp a L 0 = some (i, b) ∧ L[i]? = some (a, b)) ∨ (fp a L 0 = none ∧ a ∉ L.map (·.1)) := by
  cases h : fp a L 0 with
  | none => exact .inr ⟨rfl, fun h1 => by
      obtain ⟨p, h2, h3⟩ := List.mem_map.1 h1
      exact (fp_none a L).1 h p h2 h3⟩
  | some q => obtain ⟨i, b⟩ := q; exact .inl ⟨i, b, rfl, (fp_at a L 0 i b h).2⟩
theorem upL_keys {α β : Type} [DecidableEq α] (L : List (α × β)) (a : α) (b : β) : (upL L a b).map (·.1) = if a ∈ L.map (·.1) then L.map (·.1) else L.map (·.1) ++ [a] := by
  unfold upL
  rcases fp_mem a L with ⟨i, c, h1, h2⟩ | ⟨h1, h2⟩
  · have hm : a ∈ L.map (·.1) := List.mem_map.2 ⟨_, List.mem_of_getElem? h2, rfl⟩
    rw [h1, if_pos hm]
    show (L.set i (a, b)).map (·.1) = _
    rw [List.map_set]
    apply List.ext_getElem?
    intro j
    by_cases e : i = j
    · subst e
      have hlt := (List.getElem?_eq_some_iff.1 h2).1
      rw [List.getElem?_set_self (by simpa using hlt), List.getElem?_map, h2]; rfl
    · rw [List.getElem?_set_ne e]
  · rw [h1, if_neg h2]
    show (L ++ [(a, b)]).map (·.1) = _
    rw [List.map_append]; rfl
theorem upL_mem {α β : Type} [DecidableEq α] (L : List (α × β)) (a : α) (b : β) (x : α) : x ∈ (upL L a b).map (·.1) ↔ x = a ∨ x ∈ L.map (·.1) := by
  rw [upL_keys]
  split
  · constructor
    · exact .inr
    · rintro (rfl | h) <;> assumption
  · rw [List.mem_append, List.mem_singleton]; exact Or.comm
end Go.Proofs.Ytmbaennilhdieaa
