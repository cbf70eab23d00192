/- The walk by small steps: maps. Over any program. -/
import Derived.Test.YtmbaennilhdieaaEng5
namespace Go.Proofs.Ytmbaennilhdieaa
open Go.RowKit

/-- keys of a map: how they are written; they are equal as plain data are -/
structure KeyOk (P : Program) (kt : TypeId) {α : Type} [DecidableEq α] (ek : α → Value) : Prop where
  und : ∃ d, P.underlying kt = some d ∧ ∀ a b, Instr.sameNow d (ek a) (ek b) = none ∨ Instr.sameNow d (ek a) (ek b) = some (decide (a = b))
  eq : ∀ a b w, (Op.equal kt (ek a) (ek b)).run P w = .ok (decide (a = b)) w
  check : ∀ e a w, (Instr.checkKey e 10000 kt (ek a)).run P w = .ok () w
  bits : ∀ a, Instr.sameBits 10000 (ek a) (ek a) = true
/-- the map m holds the pairs of L, in this order -/
def Mp {α β : Type} (w : World) (m : Nat) (ek : α → Value) (ev : β → Value) (L : List (α × β)) : Prop :=
  ∃ es clk, w.heap[m]? = some (.map es clk) ∧ es.toList.map (fun e => (e.key, e.val)) = L.map (fun p => (ek p.1, ev p.2)) ∧ es.toList.Pairwise (fun a b => a.born < b.born) ∧ ∀ e ∈ es.toList, e.born < clk
theorem Mp.lt {α β : Type} {ek : α → Value} {ev : β → Value} {w : World} {m : Nat} {L : List (α × β)} (h : Mp w m ek ev L) : m < w.heap.size := by
  obtain ⟨es, clk, h1, h2⟩ := h
  rcases Nat.lt_or_ge m w.heap.size with hlt | hge
  · exact hlt
  · rw [Array.getElem?_eq_none hge] at h1; cases h1
def lk {α β : Type} [DecidableEq α] (L : List (α × β)) (a : α) : Option β := (L.find? fun p => p.1 = a).map (·.2)
def fp {α β : Type} [DecidableEq α] (a : α) : List (α × β) → Nat → Option (Nat × β)
  | [], _ => none
  | (k, b) :: r, i => if a = k then some (i, b) else fp a r (i + 1)
def upL {α β : Type} [DecidableEq α] (L : List (α × β)) (a : α) (b : β) : List (α × β) := match fp a L 0 with
  | some (i, _) => L.set i (a, b)
  | none => L ++ [(a, b)]
theorem fp_lk {α β : Type} [DecidableEq α] (a : α) : ∀ (L : List (α × β)) (i : Nat), (fp a L i).map (·.2) = lk L a
  | [], _ => rfl
  | (k, b) :: r, i => by
    unfold fp lk
    by_cases h : a = k
    · simp [h]
    · have h' : ¬ k = a := fun e => h e.symm
      rw [if_neg h, fp_lk a r, List.find?_cons]
      simp [h', lk]
theorem fp_at {α β : Type} [DecidableEq α] (a : α) : ∀ (L : List (α × β)) (i j : Nat) (b : β), fp a L i = some (j, b) → i ≤ j ∧ L[j - i]? = some (a, b)
  | [], _, _, _, h => by cases h
  | (k, c) :: r, i, j, b, h => by
    unfold fp at h
    by_cases e : a = k
    · rw [if_pos e] at h
      cases h
      simp [e]
    · rw [if_neg e] at h
      obtain ⟨h1, h2⟩ := fp_at a r (i + 1) j b h
      refine ⟨by omega, ?_⟩
      rw [show j - i = (j - (i + 1)) + 1 by omega, List.getElem?_cons_succ]
      exact h2
theorem fp_none {α β : Type} [DecidableEq α] (a : α) (L : List (α × β)) : fp a L 0 = none ↔ ∀ p ∈ L, p.1 ≠ a := by
  have h := fp_lk a L 0
  constructor
  · intro e p hp he
    rw [e] at h
    have : lk L a = none := h.symm
    unfold lk at this
    rw [Option.map_eq_none_iff, List.find?_eq_none] at this
    exact this p hp (by simpa using he)
  · intro hn
    cases hf : fp a L 0 with
    | none => rfl
    | some x =>
      obtain ⟨j, b⟩ := x
      obtain ⟨-, h2⟩ := fp_at a L 0 j b hf
      exact absurd rfl (hn _ (List.mem_of_getElem? h2))
section
variable {α β : Type} [DecidableEq α] {P : Program} {kt : TypeId} {ek : α → Value} {ev : β → Value}
theorem run_findNow (d : TypeDesc) (a : α) (hn : ∀ a b, Instr.sameNow d (ek a) (ek b) = none ∨ Instr.sameNow d (ek a) (ek b) = some (decide (a = b))) : ∀ (es : List MapEntry) (L : List (α × β)) (i : Nat), es.map (fun e => (e.key, e.val)) = L.map (fun p => (ek p.1, ev p.2)) →
    Instr.findNow d (ek a) es i = none ∨ Instr.findNow d (ek a) es i = some ((fp a L i).map fun p => (p.1, ev p.2))
  | [], [], i, _ => .inr rfl
  | [], _ :: _, _, h => by simp at h
  | _ :: _, [], _, h => by simp at h
  | e :: es, (k, b) :: L, i, h => by
    simp only [List.map_cons, List.cons.injEq, Prod.mk.injEq] at h
    obtain ⟨⟨h1, h2⟩, h3⟩ := h
    unfold Instr.findNow fp
    rw [h1]
    rcases hn a k with h4 | h4
    · rw [h4]; exact .inl rfl
    · rw [h4]
      by_cases e : a = k
      · simp [e, h2]
      · simp only [e, decide_false, if_false]
        exact run_findNow d a hn es L (i + 1) h3
theorem run_findAsking (a : α) (heq : ∀ a b w, (Op.equal kt (ek a) (ek b)).run P w = .ok (decide (a = b)) w) (w : World) : ∀ (es : List MapEntry) (L : List (α × β)) (i : Nat), es.map (fun e => (e.key, e.val)) = L.map (fun p => (ek p.1, ev p.2)) →
    (Instr.findAsking kt (ek a) es i).run P w = .ok ((fp a L i).map fun p => (p.1, ev p.2)) w
  | [], [], i, _ => by unfold Instr.findAsking; rfl
  | [], _ :: _, _, h => by simp at h
  | _ :: _, [], _, h => by simp at h
  | e :: es, (k, b) :: L, i, h => by
    simp only [List.map_cons, List.cons.injEq, Prod.mk.injEq] at h
    obtain ⟨⟨h1, h2⟩, h3⟩ := h
    unfold Instr.findAsking fp
    rw [h1, Sem.run_bind, heq, Result.andThen_ok]
    by_cases e : a = k
    · simp [e, h2]
    · simp only [e, decide_false, Bool.false_eq_true, if_false]
      exact run_findAsking a heq w es L (i + 1) h3
theorem run_findKey (hk : KeyOk P kt ek) (a : α) (w : World) (es : List MapEntry) (L : List (α × β)) (h : es.map (fun e => (e.key, e.val)) = L.map (fun p => (ek p.1, ev p.2))) :
    (Instr.findKey kt (ek a) es).run P w = .ok ((fp a L 0).map fun p => (p.1, ev p.2)) w := by
  obtain ⟨d, hd, hn⟩ := hk.und
  unfold Instr.findKey
  rw [Sem.run_bind, run_underlying hd, Result.andThen_ok]
  rcases run_findNow (ev := ev) d a hn es L 0 h with h1 | h1
  · rw [h1]; exact run_findAsking a hk.eq w es L 0 h
  · rw [h1]; rfl
theorem ev_lookup2 {s : Env} {C : World → Prop} {d : Option Nat} {ty : TypeId} {pos : String} {af : Array Edge} {gd : Option (Nat × Bool)} {t et : TypeId} {x y : Operand} {m : Nat} {a : α} {L : List (α × β)} {z : Value} (hx : evE s x = some (.map (some m))) (hy : evE s y = some (ek a)) (ht : P.underlying t = some (.map kt et)) (hk : KeyOk P kt ek) (hz : ∀ w, (zeroValue et).run P w = .ok z w) (hm : ∀ w, C w → Mp w m ek ev L) :
    Ev P s C ⟨d, .lookup t x y true, ty, pos, af, gd⟩ (.tuple #[match lk L a with | some b => ev b | none => z, .bool (lk L a).isSome]) := fun ρ hρ w hw => by
  obtain ⟨es, clk, h1, h2, -⟩ := hm w hw
  have hg : (getObj m).run P w = .ok (.map es clk) w := by simp [getObj, Sem.run, h1]
  unfold execOp
  simp only [hρ x _ hx, hρ y _ hy, Instr.lookup, Sem.run_bind, run_underlying ht, Result.andThen_ok, hg, Sem.run_pure, hk.check, run_findKey hk a w es.toList L h2, ← fp_lk a L 0]
  cases hf : fp a L 0 with
  | none => simp [hz]
  | some p => simp
theorem setObj_fr (w : World) (m : Nat) (o : Obj) : Fr (· = m) w { w with heap := w.heap.setIfInBounds m o } :=
  ⟨rfl, rfl, rfl, by simp, fun q _ hn => by simp [Array.getElem?_setIfInBounds_ne (Ne.symm hn)]⟩
end
end Go.Proofs.Ytmbaennilhdieaa
