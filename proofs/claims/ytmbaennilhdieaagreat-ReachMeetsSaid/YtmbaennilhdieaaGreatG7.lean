/- Merged texts: part 7. No conditions of their own. -/
import Derived.Test.YtmbaennilhdieaaGreatG1
import Derived.Test.YtmbaennilhdieaaGreatG6
import Derived.ProofKit
import Derived.Test.YtmbaennilhdieaaGreatG3
/- Plain tools for translated functions: results in Option, loops with fuel. Over any program. -/
namespace Go.Proofs.YtmbaennilhdieaaGreat
open Go.RowKit

/-- m ends, and its value satisfies R -/
def Sat {ρ : Type} (m : Option ρ) (R : ρ → Prop) : Prop := ∃ r, m = some r ∧ R r
theorem sat_some {ρ : Type} {x : ρ} {R : ρ → Prop} (h : R x) : Sat (some x) R := ⟨x, rfl, h⟩
theorem Sat.eq {ρ : Type} {m : Option ρ} {x : ρ} (h : Sat m (· = x)) : m = some x := by obtain ⟨r, h1, rfl⟩ := h; exact h1
theorem Sat.mono {ρ : Type} {m : Option ρ} {R Q : ρ → Prop} (h : Sat m R) (k : ∀ x, R x → Q x) : Sat m Q := by obtain ⟨r, h1, h2⟩ := h; exact ⟨r, h1, k _ h2⟩
theorem Sat.bind {ρ σ : Type} {m : Option σ} {f : σ → Option ρ} {P : σ → Prop} {R : ρ → Prop} (h : Sat m P) (k : ∀ x, P x → Sat (f x) R) : Sat (m.bind f) R := by obtain ⟨x, rfl, h2⟩ := h; exact k x h2
theorem sat_cond {ρ : Type} {b : Bool} {x y : Option ρ} {R : ρ → Prop} (h1 : b = true → Sat x R) (h2 : b = false → Sat y R) : Sat (bif b then x else y) R := by cases b with | true => exact h1 rfl | false => exact h2 rfl
theorem sat_dec {ρ : Type} {p : Prop} [Decidable p] {x y : Option ρ} {R : ρ → Prop} (h1 : p → Sat x R) (h2 : ¬ p → Sat y R) : Sat (bif decide p then x else y) R := by
  by_cases h : p
  · rw [decide_eq_true h]; exact h1 h
  · rw [decide_eq_false h]; exact h2 h
theorem sat_not {ρ : Type} {b : Bool} {x y : Option ρ} {R : ρ → Prop} (h1 : b = false → Sat x R) (h2 : b = true → Sat y R) : Sat (bif !b then x else y) R := by cases b with | true => exact h2 rfl | false => exact h1 rfl
/-! (no rfl-lemmas: simp's implicit proofs by unfolding are too deep for the kernel) -/
theorem bs {ρ σ : Type} {x : σ} {f : σ → Option ρ} : (some x).bind f = f x := Eq.trans rfl rfl
theorem ct {ρ : Type} {x y : ρ} : (bif true then x else y) = x := Eq.trans rfl rfl
theorem cf {ρ : Type} {x y : ρ} : (bif false then x else y) = y := Eq.trans rfl rfl
theorem nt : (!true) = false := Eq.trans rfl rfl
theorem nf : (!false) = true := Eq.trans rfl rfl
theorem lt_t {a b : Int} (h : a < b) : decide (a < b) = true := decide_eq_true h
theorem lt_f {a b : Int} (h : b ≤ a) : decide (a < b) = false := decide_eq_false (by omega)
theorem le_t {a b : Int} (h : a ≤ b) : decide (a ≤ b) = true := decide_eq_true h
theorem le_f {a b : Int} (h : b < a) : decide (a ≤ b) = false := decide_eq_false (by omega)
theorem eq_t {a b : Int} (h : a = b) : decide (a = b) = true := decide_eq_true h
theorem eq_f {a b : Int} (h : a ≠ b) : decide (a = b) = false := decide_eq_false h
theorem req_t {ρ : Type} {b : Prop} [Decidable b] {m : Option ρ} (h : b) : req b m = m := if_pos h
theorem r64 {ρ : Type} {a : Int} {m : Option ρ} (h1 : -9000000000000000000 ≤ a) (h2 : a ≤ 9000000000000000000) : req (in64 a) m = m := if_pos ⟨by omega, by omega⟩
theorem rF {ρ : Type} {n : Nat} {m : Option ρ} (h : n ≤ 1000000) : req (fitsL n) m = m := if_pos (by unfold fitsL; omega)
theorem getE_at {α : Type} {xs : List α} {i : Int} (h0 : 0 ≤ i) (h1 : i.toNat < xs.length) : getE xs i = some xs[i.toNat] := by
  unfold getE
  rw [if_neg (by omega), List.getElem?_eq_getElem h1]
theorem getE_n {α : Type} {xs : List α} {i : Nat} (h1 : i < xs.length) : getE xs (i : Int) = some xs[i] := by
  unfold getE
  rw [if_neg (by omega), Int.toNat_natCast, List.getElem?_eq_getElem h1]

/-- a loop that counts up to n: an invariant, and the rest of the loop as a way to go on -/
theorem loop_inv {σ ρ : Type} (L : Nat → Nat → σ → Option ρ) (n : Nat) (Inv : Nat → σ → Prop) (R : ρ → Prop)
    (round : ∀ m i s, i < n → Inv i s → (∀ s', Inv (i + 1) s' → Sat (L m (i + 1) s') R) → Sat (L (m + 1) i s) R)
    (fin : ∀ m s, Inv n s → Sat (L (m + 1) n s) R) : ∀ m i s, n < m + i → i ≤ n → Inv i s → Sat (L m i s) R
  | 0, i, s, h, h2, _ => by omega
  | m + 1, i, s, h, h2, hi => by
    by_cases e : i = n
    · subst e; exact fin m s hi
    · exact round m i s (by omega) hi fun s' h' => loop_inv L n Inv R round fin m (i + 1) s' (by omega) (by omega) h'
/-- a loop whose number goes down by itself -/
theorem loop_dec {σ ρ : Type} (L : Nat → σ → Option ρ) (v : σ → Nat) (Inv : σ → Prop) (R : ρ → Prop)
    (round : ∀ m s, Inv s → (∀ s', v s' < v s → Inv s' → Sat (L m s') R) → Sat (L (m + 1) s) R) : ∀ m s, v s < m → Inv s → Sat (L m s) R
  | 0, _, h, _ => by omega
  | m + 1, s, h, hi => round m s hi fun s' h1 h2 => loop_dec L v Inv R round m s' (by omega) h2

theorem take_succ_get {α : Type} {l : List α} {i : Nat} (h : i < l.length) : l.take (i + 1) = l.take i ++ [l[i]] := by
  rw [List.take_add_one, List.getElem?_eq_getElem h]; rfl
/-- two ascending lists with the same elements are equal -/
theorem asc_ext : ∀ {a b : List Int}, a.Pairwise (· < ·) → b.Pairwise (· < ·) → (∀ x, x ∈ a ↔ x ∈ b) → a = b
  | [], [], _, _, _ => rfl
  | [], y :: b, _, _, h => by have := (h y).2 (by simp); cases this
  | x :: a, [], _, _, h => by have := (h x).1 (by simp); cases this
  | x :: a, y :: b, ha, hb, h => by
    obtain ⟨ha1, ha2⟩ := List.pairwise_cons.1 ha
    obtain ⟨hb1, hb2⟩ := List.pairwise_cons.1 hb
    have e : x = y := by
      rcases List.mem_cons.1 ((h x).1 (by simp)) with e | h1
      · exact e
      · rcases List.mem_cons.1 ((h y).2 (by simp)) with e | h2
        · exact e.symm
        · have := hb1 x h1; have := ha1 y h2; omega
    subst e
    rw [asc_ext ha2 hb2 fun z => ?_]
    constructor
    · intro hz
      rcases List.mem_cons.1 ((h z).1 (by simp [hz])) with e | h1
      · subst e; exact absurd (ha1 z hz) (by omega)
      · exact h1
    · intro hz
      rcases List.mem_cons.1 ((h z).2 (by simp [hz])) with e | h1
      · subst e; exact absurd (hb1 z hz) (by omega)
      · exact h1
theorem fp_mem {α β : Type} [DecidableEq α] (a : α) (L : List (α × β)) : (∃ i b, fp a L 0 = some (i, b) ∧ L[i]? = some (a, b)) ∨ (fp a L 0 = none ∧ a ∉ L.map (·.1)) := by
  cases h : fp a L 0 with
  | none => exact .inr ⟨rfl, fun h1 => by
      obtain ⟨p, h2, h3⟩ := List.mem_map.1 h1
      exact (fp_none a L).1 h p h2 h3⟩
  | some q => obtain ⟨i, b⟩ := q; exact .inl ⟨i, b, rfl, (fp_at a L 0 i b h).2⟩
theorem upL_keys {α β : Type} [DecidableEq α] (L : List (α × β)) (a : α) (b : β) : (upL L a b).map (·.1) = if a ∈ L.map (·.1) then L.map (·.1) else L.map (·.1) ++ [a] := by
  unfold upL
  rcases fp_mem a L with ⟨i, c, h1, h2⟩ | ⟨h1, h2⟩
  · have hm : a ∈ L.map (·.1) := List.mem_map.2 ⟨_, List.mem_of_getElem? h2, rfl⟩
    rw [h1, if_pos hm]
    show (L.set i (a, b)).map (·.1) = _
    rw [List.map_set]
    apply List.ext_getElem?
    intro j
    by_cases e : i = j
    · subst e
      have hlt := (List.getElem?_eq_some_iff.1 h2).1
      rw [List.getElem?_set_self (by simpa using hlt), List.getElem?_map, h2]; rfl
    · rw [List.getElem?_set_ne e]
  · rw [h1, if_neg h2]
    show (L ++ [(a, b)]).map (·.1) = _
    rw [List.map_append]; rfl
theorem upL_mem {α β : Type} [DecidableEq α] (L : List (α × β)) (a : α) (b : β) (x : α) : x ∈ (upL L a b).map (·.1) ↔ x = a ∨ x ∈ L.map (·.1) := by
  rw [upL_keys]
  split
  · constructor
    · exact .inr
    · rintro (rfl | h) <;> assumption
  · rw [List.mem_append, List.mem_singleton]; exact Or.comm
end Go.Proofs.YtmbaennilhdieaaGreat

/- The examples of the specification, by computation. -/
namespace Go.Proofs.YtmbaennilhdieaaGreat
open Go.RowKit

end Go.Proofs.YtmbaennilhdieaaGreat

/- Plain: references of a cell, on both sides. -/
namespace Go.Proofs.YtmbaennilhdieaaGreat
open Go.RowKit

theorem getE_nat {α : Type} (xs : List α) (i : Nat) : getE xs (i : Int) = xs[i]? := by
  unfold getE; rw [if_neg (by omega)]; simp
theorem req_pos {ρ : Type} {b : Prop} [Decidable b] {m : Option ρ} (h : b) : req b m = m := if_pos h
def hasB (v : DValue) : Bool := decide (v.Kind = 7) || decide (v.Kind = 9)
def strongB (k : Int) (i : Nat) : Bool := !decide (k = 8) && (!decide (k = 10) || decide ((i : Int).tmod 2 = 0))
def pick (f : Nat → DValue → Bool) : Nat → List DValue → List Int
  | _, [] => []
  | i, v :: l => (bif f i v then [v.N] else []) ++ pick f (i + 1) l
theorem pick_cons (f : Nat → DValue → Bool) (i : Nat) (v : DValue) (l : List DValue) : pick f i (v :: l) = (bif f i v then [v.N] else []) ++ pick f (i + 1) l := rfl
theorem pick_len (f : Nat → DValue → Bool) : ∀ (i : Nat) (l : List DValue), (pick f i l).length ≤ l.length
  | _, [] => Nat.le_refl _
  | i, v :: l => by
    have := pick_len f (i + 1) l
    unfold pick
    cases f i v <;> simp <;> omega
theorem pick_none : ∀ (i : Nat) (l : List DValue), pick (fun _ _ => false) i l = []
  | _, [] => rfl
  | i, v :: l => by unfold pick; simp [pick_none (i + 1) l]
theorem cell_leads_spec (N : Nat) (v : DValue) : cell_leads_O N v = some (hasB v) := by
  unfold cell_leads_O hasB; cases decide (v.Kind = 7) <;> rfl
theorem ref_has_spec (N : Nat) (v : DValue) : pantomimeref15_has_O N v = some (hasB v) := by
  unfold pantomimeref15_has_O hasB; cases decide (v.Kind = 7) <;> rfl
theorem body_spec (N : Nat) (a b : Bool) (x : DValue) (p : List Int) (h : p.length ≤ 5000) : liftR (fun x st => cell_addresses_b8 N a x st) (b, x) (none, p) = some (true, (none, p ++ (bif (b == a) && hasB x then [x.N] else []))) := by
  unfold liftR cell_addresses_b8
  simp only [cell_leads_spec, Option.bind_some]
  cases b == a
  · simp
  · cases hasB x
    · simp
    · have : fitsL (p.length + [x.N].length) := by unfold fitsL; simp only [List.length_cons, List.length_nil]; omega
      simp only [cond_true, Option.bind_some, Bool.and_self]
      rw [req_pos this]
      rfl
theorem all_l15 (N : Nat) (a : Bool) (c : DCell) (hc : c.More.length ≤ 1000) (K : Nat) (hK : K ≤ 1000) : ∀ (m i : Nat) (p : List Int), c.More.length < m + i → i ≤ c.More.length → p.length ≤ K + i → cell_all_c1_l15 N (liftR (fun x st => cell_addresses_b8 N a x st)) c m (i : Int) (none, p) = some (none, p ++ pick (fun i v => (strongB c.Kind i == a) && hasB v) i (c.More.drop i))
  | 0, i, p, h, h2, _ => by omega
  | m + 1, i, p, h, h2, h3 => by
    rw [cell_all_c1_l15_s]
    by_cases hi : i < c.More.length
    · rw [show (decide ((i : Int) < (c.More.length : Int))) = true from decide_eq_true (by omega), getE_nat, List.getElem?_eq_getElem hi, List.drop_eq_getElem_cons hi]
      simp only [cond_true, Option.bind_some]
      have hs : (bif !decide (c.Kind = 8) then ((bif !decide (c.Kind = 10) then (some true) else (some (decide ((i : Int).tmod 2 = 0)))).bind fun b22 => some b22) else (some false)) = some (strongB c.Kind i) := by
        unfold strongB; cases decide (c.Kind = 8) <;> cases decide (c.Kind = 10) <;> rfl
      rw [hs]
      simp only [Option.bind_some]
      rw [body_spec N a _ _ _ (by omega)]
      rw [Option.bind_some]
      dsimp only
      rw [Bool.not_true, cond_false]
      rw [req_pos (by unfold in64; omega)]
      have hlen : (p ++ (bif (strongB c.Kind i == a) && hasB c.More[i] then [c.More[i].N] else [])).length ≤ K + (i + 1) := by
        cases (strongB c.Kind i == a) && hasB c.More[i] <;> simp <;> omega
      have := all_l15 N a c hc K hK m (i + 1) _ (by omega) hi hlen
      simp only [Int.natCast_add, Int.cast_ofNat_Int] at this
      rw [this]
      rw [pick_cons, List.append_assoc]
    · rw [show (decide ((i : Int) < (c.More.length : Int))) = false from decide_eq_false (by omega), List.drop_eq_nil_of_le (by omega)]
      simp [pick]
theorem all_l6 (N : Nat) (hN : 2000 < N) (a : Bool) (c : DCell) (hS : c.Slots.length ≤ 1000) (hc : c.More.length ≤ 1000) : ∀ (m i : Nat) (p : List Int), c.Slots.length < m + i → i ≤ c.Slots.length → p.length ≤ i → cell_all_c1_l6 N (liftR (fun x st => cell_addresses_b8 N a x st)) c m (i : Int) (none, p) = some (none, (p ++ pick (fun _ v => (true == a) && hasB v) i (c.Slots.drop i)) ++ pick (fun i v => (strongB c.Kind i == a) && hasB v) 0 c.More)
  | 0, i, p, h, h2, _ => by omega
  | m + 1, i, p, h, h2, h3 => by
    rw [cell_all_c1_l6_s]
    by_cases hi : i < c.Slots.length
    · rw [show (decide ((i : Int) < (c.Slots.length : Int))) = true from decide_eq_true (by omega), getE_nat, List.getElem?_eq_getElem hi, List.drop_eq_getElem_cons hi]
      simp only [cond_true, Option.bind_some]
      rw [body_spec N a _ _ _ (by omega)]
      rw [Option.bind_some]
      dsimp only
      rw [Bool.not_true, cond_false]
      rw [req_pos (by unfold in64; omega)]
      have hlen : (p ++ (bif (true == a) && hasB c.Slots[i] then [c.Slots[i].N] else [])).length ≤ (i + 1) := by
        cases (true == a) && hasB c.Slots[i] <;> simp <;> omega
      have := all_l6 N hN a c hS hc m (i + 1) _ (by omega) hi hlen
      simp only [Int.natCast_add, Int.cast_ofNat_Int] at this
      rw [this]
      rw [pick_cons, List.append_assoc p]
    · rw [show (decide ((i : Int) < (c.Slots.length : Int))) = false from decide_eq_false (by omega), List.drop_eq_nil_of_le (by omega)]
      simp only [cond_false, cell_all_c1_j4]
      have := all_l15 N a c hc p.length (by omega) N 0 p (by omega) (by omega) (by omega)
      simp only [Int.natCast_zero, Int.cast_ofNat_Int] at this
      rw [this]
      simp [pick]
theorem addresses_spec (N : Nat) (hN : 2000 < N) (a : Bool) (c : DCell) (hS : c.Slots.length ≤ 1000) (hc : c.More.length ≤ 1000) : cell_addresses_O N c a = some (pick (fun _ v => (true == a) && hasB v) 0 c.Slots ++ pick (fun i v => (strongB c.Kind i == a) && hasB v) 0 c.More) := by
  unfold cell_addresses_O cell_all_O cell_all_c1_O
  have := all_l6 N hN a c hS hc N 0 [] (by omega) (by omega) (by simp)
  simp only [Int.natCast_zero, Int.cast_ofNat_Int] at this
  rw [Option.bind_some, this, Option.bind_some]
  show some _ = some _
  simp
def weakB (k : Int) (i : Nat) : Bool := decide (k = 8) || (decide (k = 10) && (decide (0 < (i : Int)) && decide ((((i : Int) - 1).tmod 4).tmod 2 = 0)))
theorem weak_spec (N : Nat) (k : Int) (i : Nat) (hi : i ≤ 5000) : pantomimeref15_weak_O N k (i : Int) = some (weakB k i) := by
  unfold pantomimeref15_weak_O weakB
  by_cases h1 : k = 8
  · simp [h1]
  · by_cases h2 : k = 10
    · by_cases h3 : (0 : Int) < i
      · subst h2; simp only [h3, decide_true, ct, bs, r64 (a := (i : Int) - 1) (by omega) (by omega), show decide ((10 : Int) = 8) = false from rfl, cf, Bool.false_or, Bool.true_and]
      · subst h2; simp only [h3, decide_true, decide_false, ct, bs, show decide ((10 : Int) = 8) = false from rfl, cf, Bool.false_or, Bool.true_and, Bool.false_and]
    · simp [h1, h2]
theorem ref_leads_spec (N : Nat) (hN : 2000 < N) (c : DCell) (hS : c.Slots.length ≤ 1000) (hc : c.More.length ≤ 1000) : pantomimeref15_Leads_O N c = some (pick (fun _ v => hasB v) 0 c.Slots ++ pick (fun i v => !weakB c.Kind i && hasB v) 0 c.More) := by
  apply Sat.eq
  unfold pantomimeref15_Leads_O
  refine loop_inv (fun m i s => pantomimeref15_Leads_l6 N c m s (i : Int)) c.Slots.length (fun i s => s ++ pick (fun _ v => hasB v) i (c.Slots.drop i) = pick (fun _ v => hasB v) 0 c.Slots ∧ s.length ≤ i) _ ?_ ?_ N 0 [] (by omega) (by omega) ⟨by simp, by simp⟩
  · rintro m i s hi ⟨h1, h2⟩ k
    show Sat (pantomimeref15_Leads_l6 N c (m + 1) s i) _
    rw [List.drop_eq_getElem_cons hi, pick_cons] at h1
    rw [pantomimeref15_Leads_l6_s, lt_t (by omega), cond_true, getE_n hi, bs, ref_has_spec, bs]
    simp only [bs]
    cases hh : hasB c.Slots[i]
    all_goals
      simp only [hh, ct, cf, bs, List.nil_append] at h1 ⊢
      first
      | (unfold pantomimeref15_Leads_j11
         rw [r64 (by omega) (by omega)]
         exact k s ⟨h1, by omega⟩)
      | (rw [rF (by simp; omega)]
         unfold pantomimeref15_Leads_j11
         rw [r64 (by omega) (by omega)]
         exact k _ ⟨by rw [List.append_assoc]; exact h1, by simp; omega⟩)
  · rintro m s ⟨h1, h2⟩
    show Sat (pantomimeref15_Leads_l6 N c (m + 1) s _) _
    rw [List.drop_length] at h1
    have h1 : s = pick (fun _ v => hasB v) 0 c.Slots := by rw [← h1]; simp [pick]
    rw [pantomimeref15_Leads_l6_s, lt_f (by omega), cond_false, ← h1]
    unfold pantomimeref15_Leads_j4
    clear h1
    refine loop_inv (fun m i s => pantomimeref15_Leads_l23 N c m s (i : Int)) c.More.length (fun i t => t ++ pick (fun i v => !weakB c.Kind i && hasB v) i (c.More.drop i) = s ++ pick (fun i v => !weakB c.Kind i && hasB v) 0 c.More ∧ t.length ≤ 1000 + i) _ ?_ ?_ N 0 s (by omega) (by omega) ⟨by simp, by omega⟩
    · rintro m i s hi ⟨h1, h2⟩ k
      show Sat (pantomimeref15_Leads_l23 N c (m + 1) s i) _
      rw [List.drop_eq_getElem_cons hi, pick_cons] at h1
      rw [pantomimeref15_Leads_l23_s, lt_t (by omega), cond_true, getE_n hi, bs, ref_has_spec, bs, weak_spec _ _ _ (by omega)]
      simp only [bs]
      cases hh : hasB c.More[i] <;> cases hw : weakB c.Kind i
      all_goals
        simp only [hh, hw, Bool.and_true, Bool.and_false, nt, nf, ct, cf, bs, List.nil_append] at h1 ⊢
        first
        | (unfold pantomimeref15_Leads_j27
           rw [r64 (by omega) (by omega)]
           exact k s ⟨h1, by omega⟩)
        | (rw [rF (by simp; omega)]
           unfold pantomimeref15_Leads_j27
           rw [r64 (by omega) (by omega)]
           exact k _ ⟨by rw [List.append_assoc]; exact h1, by simp; omega⟩)
    · rintro m s ⟨h1, h2⟩
      show Sat (pantomimeref15_Leads_l23 N c (m + 1) s _) _
      rw [List.drop_length] at h1
      rw [pantomimeref15_Leads_l23_s, lt_f (by omega), cond_false]
      exact sat_some (by rw [← h1]; simp [pick])
theorem strong_weak (k : Int) (i : Nat) : strongB k i = !weakB k i := by
  unfold strongB weakB
  by_cases h8 : k = 8
  · subst h8; rfl
  · by_cases h10 : k = 10
    · subst h10
      have e0 : (i : Int).tmod 2 = (i : Int) % 2 := Int.tmod_eq_emod_of_nonneg (by omega)
      by_cases hi : (0 : Int) < i
      · have e1 : ((i : Int) - 1).tmod 4 = ((i : Int) - 1) % 4 := Int.tmod_eq_emod_of_nonneg (by omega)
        have e2 : (((i : Int) - 1) % 4).tmod 2 = (((i : Int) - 1) % 4) % 2 := Int.tmod_eq_emod_of_nonneg (by omega)
        rw [e0, e1, e2]
        by_cases h : (i : Int) % 2 = 0
        · have h2 : ¬ (((i : Int) - 1) % 4) % 2 = 0 := by omega
          rw [decide_eq_true h, decide_eq_false h2, decide_eq_true hi]; rfl
        · have h2 : (((i : Int) - 1) % 4) % 2 = 0 := by omega
          rw [decide_eq_false h, decide_eq_true h2, decide_eq_true hi]; rfl
      · have : i = 0 := by omega
        subst this; rfl
    · simp [h8, h10]
def leadsL (c : DCell) : List Int := pick (fun _ v => hasB v) 0 c.Slots ++ pick (fun i v => !weakB c.Kind i && hasB v) 0 c.More
theorem leads_prog (N : Nat) (hN : 2000 < N) (c : DCell) (hS : c.Slots.length ≤ 1000) (hc : c.More.length ≤ 1000) : cell_Leads_O N c = some (leadsL c) := by
  unfold cell_Leads_O leadsL
  rw [addresses_spec N hN true c hS hc, bs]
  have e1 : (fun (_ : Nat) (v : DValue) => (true == true) && hasB v) = fun _ v => hasB v := by funext i v; rfl
  have e2 : (fun (i : Nat) (v : DValue) => (strongB c.Kind i == true) && hasB v) = fun i v => !weakB c.Kind i && hasB v := by funext i v; rw [strong_weak]; cases weakB c.Kind i <;> rfl
  rw [e1, e2]
theorem leads_ref (N : Nat) (hN : 2000 < N) (c : DCell) (hS : c.Slots.length ≤ 1000) (hc : c.More.length ≤ 1000) : pantomimeref15_Leads_O N c = some (leadsL c) := ref_leads_spec N hN c hS hc
theorem leadsL_len (c : DCell) : (leadsL c).length ≤ c.Slots.length + c.More.length := by
  unfold leadsL
  have h1 := pick_len (fun _ v => hasB v) 0 c.Slots
  have h2 := pick_len (fun i v => !weakB c.Kind i && hasB v) 0 c.More
  rw [List.length_append]; omega
theorem pick_mem {f : Nat → DValue → Bool} {x : Int} : ∀ {i : Nat} {l : List DValue}, x ∈ pick f i l → ∃ v ∈ l, v.N = x
  | _, [], h => by cases h
  | i, v :: l, h => by
    rw [pick_cons, List.mem_append] at h
    rcases h with h | h
    · cases hf : f i v
      · rw [hf] at h; cases h
      · rw [hf] at h; exact ⟨v, by simp, (List.mem_singleton.1 h).symm⟩
    · obtain ⟨w, h1, h2⟩ := pick_mem h
      exact ⟨w, by simp [h1], h2⟩
theorem leadsL_mem {c : DCell} {x : Int} (h : x ∈ leadsL c) : ∃ v ∈ c.Slots ++ c.More, v.N = x := by
  unfold leadsL at h
  rcases List.mem_append.1 h with h | h
  · obtain ⟨v, h1, h2⟩ := pick_mem h; exact ⟨v, by simp [h1], h2⟩
  · obtain ⟨v, h1, h2⟩ := pick_mem h; exact ⟨v, by simp [h1], h2⟩
end Go.Proofs.YtmbaennilhdieaaGreat

/- Plain: cells at addresses, on both sides. -/
namespace Go.Proofs.YtmbaennilhdieaaGreat
open Go.RowKit

def zeroC : DCell := ⟨0, 0, 0, 0, [], []⟩
def cellAt (m : DMemory) (a : Int) : Option DCell := if a < 1 then none else if a % 2 = 1 then m.Young[((a - 1) / 2).toNat]? else m.Old[((a - 2) / 2).toNat]?
def hasM (m : DMemory) (a : Int) : Bool := (cellAt m a).isSome
def atM (m : DMemory) (a : Int) : DCell := (cellAt m a).getD zeroC
/-- lengths that the examples of the law admit -/
structure Small (m : DMemory) (roots : List DValue) : Prop where
  young : m.Young.length ≤ 600
  old : m.Old.length ≤ 600
  roots : roots.length ≤ 600
  cells : ∀ c ∈ m.Young ++ m.Old, c.Slots.length ≤ 600 ∧ c.More.length ≤ 600
theorem cellAt_mem {m : DMemory} {a : Int} {c : DCell} (h : cellAt m a = some c) : c ∈ m.Young ++ m.Old := by
  unfold cellAt at h
  split at h
  · cases h
  · split at h
    · exact List.mem_append_left _ (List.mem_of_getElem? h)
    · exact List.mem_append_right _ (List.mem_of_getElem? h)
theorem Small.at_ {m : DMemory} {roots : List DValue} (h : Small m roots) (a : Int) : (atM m a).Slots.length ≤ 600 ∧ (atM m a).More.length ≤ 600 := by
  unfold atM
  cases hc : cellAt m a with
  | none => exact ⟨by simp [zeroC], by simp [zeroC]⟩
  | some c => exact h.cells c (cellAt_mem hc)
theorem hasM_pos {m : DMemory} {a : Int} (h : hasM m a = true) : 0 < a := by
  unfold hasM cellAt at h
  split at h
  · cases h
  · omega
theorem hasM_le {m : DMemory} {roots : List DValue} (hs : Small m roots) {a : Int} (h : hasM m a = true) : a ≤ 1200 := by
  have h1 := hs.young; have h2 := hs.old
  unfold hasM cellAt at h
  split at h
  · cases h
  · split at h
    · have := (List.getElem?_eq_some_iff.1 (Option.isSome_iff_exists.1 h).choose_spec).1
      omega
    · have := (List.getElem?_eq_some_iff.1 (Option.isSome_iff_exists.1 h).choose_spec).1
      omega
theorem tdiv2 {a : Int} (h : 0 ≤ a) : a.tdiv 2 = a / 2 := Int.tdiv_eq_ediv_of_nonneg h
theorem tmod2 {a : Int} (h : 0 ≤ a) : a.tmod 2 = a % 2 := Int.tmod_eq_emod_of_nonneg h
theorem isSome_lt {α : Type} (l : List α) (i : Nat) : (l[i]?).isSome = decide ((i : Int) < (l.length : Int)) := by
  by_cases h : i < l.length
  · rw [List.getElem?_eq_getElem h, decide_eq_true (by omega)]; rfl
  · rw [List.getElem?_eq_none (by omega), decide_eq_false (by omega)]; rfl
/-- which row, and which place in it -/
theorem addr_cases (m : DMemory) (a : Int) : (a < 1 ∧ cellAt m a = none) ∨ (∃ k : Nat, a = 2 * (k : Int) + 1 ∧ cellAt m a = m.Young[k]?) ∨ (∃ k : Nat, a = 2 * (k : Int) + 2 ∧ cellAt m a = m.Old[k]?) := by
  by_cases h : a < 1
  · exact .inl ⟨h, by unfold cellAt; rw [if_pos h]⟩
  · by_cases h2 : a % 2 = 1
    · refine .inr (.inl ⟨((a - 1) / 2).toNat, by omega, ?_⟩)
      unfold cellAt; rw [if_neg h, if_pos h2]
    · refine .inr (.inr ⟨((a - 2) / 2).toNat, by omega, ?_⟩)
      unfold cellAt; rw [if_neg h, if_neg h2]
theorem tdiv_in64 {a : Int} (h : in64 a) : -4611686018427387904 ≤ a.tdiv 2 ∧ a.tdiv 2 ≤ 4611686018427387904 := by
  unfold in64 at h
  by_cases h0 : 0 ≤ a
  · rw [tdiv2 h0]; omega
  · have h1 : (-a).tdiv 2 = -(a.tdiv 2) := Int.neg_tdiv a 2
    rw [tdiv2 (by omega)] at h1
    omega
theorem place_spec (N : Nat) (m : DMemory) (a : Int) (h : in64 a) : Sat (reach_place_O N m a) fun r => r.2.2 = hasM m a ∧ (hasM m a = true → getE r.1 r.2.1 = cellAt m a) := by
  have hd := tdiv_in64 h
  unfold reach_place_O
  rw [r64 (by omega) (by omega)]
  unfold reach_place_j5 hasM
  rcases addr_cases m a with ⟨h1, h2⟩ | ⟨k, h1, h2⟩ | ⟨k, h1, h2⟩
  · rw [h2]
    refine sat_dec (fun _ => ?_) fun _ => ?_
    · rw [r64 (by omega) (by omega), r64 (by omega) (by omega), lt_f (a := 0) (b := a) (by omega), cf, bs]
      exact sat_some ⟨rfl, fun h => by cases h⟩
    · rw [lt_f (a := 0) (b := a) (by omega), cf, bs]
      exact sat_some ⟨rfl, fun h => by cases h⟩
  · subst h1
    rw [h2, tmod2 (by omega), tdiv2 (by omega), eq_f (by omega), cf, lt_t (by omega), ct, bs, show (2 * (k : Int) + 1) / 2 = k by omega]
    exact sat_some ⟨(isSome_lt _ _).symm, fun _ => getE_nat _ _⟩
  · subst h1
    rw [h2, tmod2 (by omega), tdiv2 (by omega), eq_t (by omega), ct, lt_t (by omega), ct, bs, show (2 * (k : Int) + 2) / 2 - 1 = k by omega]
    rw [r64 (by omega) (by omega), r64 (by omega) (by omega)]
    exact sat_some ⟨(isSome_lt _ _).symm, fun _ => getE_nat _ _⟩
theorem has_prog (N : Nat) (m : DMemory) (a : Int) (h : in64 a) : reach_Has_O N m a = some (hasM m a) := by
  obtain ⟨r, h1, h2, -⟩ := place_spec N m a h
  unfold reach_Has_O
  rw [h1, bs, h2]
theorem copy_spec (N : Nat) (c : DCell) (h : c.Slots.length ≤ 600 ∧ c.More.length ≤ 600) : cell_Copy_O N c = some c := by
  unfold cell_Copy_O slices_Clone_O
  rw [rF (by simp; omega), bs, rF (by simp; omega), bs]
  rfl
theorem at_prog (N : Nat) {m : DMemory} {roots : List DValue} (hs : Small m roots) (a : Int) (h : in64 a) : reach_At_O N m a = some (atM m a) := by
  obtain ⟨r, h1, h2, h3⟩ := place_spec N m a h
  unfold reach_At_O atM
  rw [h1, bs, h2]
  unfold hasM at *
  cases hc : cellAt m a with
  | none => rfl
  | some c =>
    have h4 := h3 (by rw [hc]; rfl)
    rw [hc] at h4
    have h5 := copy_spec N c (hs.cells c (cellAt_mem hc))
    simp only [Option.isSome_some, nt, cf, h4, bs, h5]
    rfl
theorem has_ref (N : Nat) (m : DMemory) (a : Int) (h : in64 a) : pantomimeref19_Has_O N m a = some (hasM m a) := by
  unfold in64 at h
  unfold pantomimeref19_Has_O hasM
  rcases addr_cases m a with ⟨h1, h2⟩ | ⟨k, h1, h2⟩ | ⟨k, h1, h2⟩
  · rw [h2, lt_t h1]; rfl
  · subst h1
    rw [h2, lt_f (by omega), cf, tmod2 (by omega), eq_t (by omega), ct, tdiv2 (by omega), show (2 * (k : Int) + 1 - 1) / 2 = k by omega, isSome_lt]
    rw [req_t (by unfold in64; omega), req_t (by unfold in64; omega)]
  · subst h1
    rw [h2, lt_f (by omega), cf, tmod2 (by omega), eq_f (by omega), cf, tdiv2 (by omega), show (2 * (k : Int) + 2 - 2) / 2 = k by omega, isSome_lt]
    rw [req_t (by unfold in64; omega), req_t (by unfold in64; omega)]
theorem at_ref (N : Nat) (m : DMemory) (a : Int) (h : in64 a) : pantomimeref19_At_O N m a = some (atM m a) := by
  have hh := has_ref N m a h
  unfold in64 at h
  unfold pantomimeref19_At_O atM
  rw [hh, bs]
  unfold hasM
  rcases addr_cases m a with ⟨h1, h2⟩ | ⟨k, h1, h2⟩ | ⟨k, h1, h2⟩
  · rw [h2]; rfl
  · cases hc : m.Young[k]? with
    | none => rw [h2, hc]; rfl
    | some c =>
      rw [h2, hc]
      subst h1
      simp only [Option.isSome_some, nt, cf]
      rw [tmod2 (by omega), eq_t (by omega), ct, tdiv2 (by omega), show (2 * (k : Int) + 1 - 1) / 2 = k by omega, getE_nat, hc, bs]
      rw [req_t (by unfold in64; omega), req_t (by unfold in64; omega)]
      rfl
  · cases hc : m.Old[k]? with
    | none => rw [h2, hc]; rfl
    | some c =>
      rw [h2, hc]
      subst h1
      simp only [Option.isSome_some, nt, cf]
      rw [tmod2 (by omega), eq_f (by omega), cf, tdiv2 (by omega), show (2 * (k : Int) + 2 - 2) / 2 = k by omega, getE_nat, hc, bs]
      rw [req_t (by unfold in64; omega), req_t (by unfold in64; omega)]
      rfl
end Go.Proofs.YtmbaennilhdieaaGreat

/- Plain: a valid cell, on both sides. -/
namespace Go.Proofs.YtmbaennilhdieaaGreat
open Go.RowKit

theorem has_props (N : Nat) (k : Int) : cell_has_O N k = pantomimeref15_Props_O N k := by
  unfold cell_has_O pantomimeref15_Props_O cell_has_j1
  by_cases h1 : k = 1
  · subst h1; rfl
  by_cases h2 : k = 2
  · subst h2; rfl
  by_cases h3 : k = 3
  · subst h3; rfl
  by_cases h6 : k = 6
  · subst h6; rfl
  by_cases h8 : k = 8
  · subst h8; rfl
  by_cases h9 : k = 9
  · subst h9; rfl
  by_cases h10 : k = 10
  · subst h10; rfl
  rw [eq_f h1, eq_f h2, eq_f h3, eq_f h6, eq_f h8, eq_f h9, eq_f h10]; rfl
theorem slots_eq (N : Nat) (c : DCell) : cell_slotsRight_O N c = pantomimeref15_slots_O N c := by
  unfold cell_slotsRight_O pantomimeref15_slots_O
  rw [has_props]; rfl
theorem may_eq (N : Nat) (v : DValue) : cell_may_O N v = pantomimeref15_May_O N v := by
  unfold cell_may_O pantomimeref15_May_O cell_may_j9
  by_cases h5 : v.Kind = 5
  · rw [h5]; rfl
  rw [eq_f h5]
  simp only [cf]
  by_cases hr : v.Kind < 0 ∨ 9 < v.Kind
  · have h2 : v.Kind ≠ 2 := by omega
    have h3 : v.Kind ≠ 3 := by omega
    have h6 : v.Kind ≠ 6 := by omega
    have h7 : v.Kind ≠ 7 := by omega
    have h9 : v.Kind ≠ 9 := by omega
    have e1 : ((bif decide (v.Kind < 0) then (some true) else (some (decide (9 < v.Kind)))) : Option Bool) = some true := by
      rcases hr with h | h
      · rw [lt_t h]; rfl
      · rw [lt_t (a := 9) h]; cases decide (v.Kind < 0) <;> rfl
    rw [e1, bs, ct, eq_f h2, eq_f h3, eq_f h6, eq_f h7, eq_f h9]
    simp only [cf]
    have e2 : (((bif decide (v.N = 0) then (some (decide (0 ≤ v.Kind))) else (some false)).bind fun b14 => (bif b14 then (some (decide (v.Kind ≤ 9))) else (some false)).bind fun b15 => some b15) : Option Bool) = some false := by
      cases decide (v.N = 0)
      · rfl
      · rcases hr with h | h
        · rw [le_f (a := 0) (b := v.Kind) (by omega)]; rfl
        · rw [le_f (a := v.Kind) (b := 9) (by omega)]; cases decide (0 ≤ v.Kind) <;> rfl
    rw [e2]
    cases s : (v.S.toList == (⟨#[]⟩ : ByteArray).toList) <;> rfl
  · have e1 : ((bif decide (v.Kind < 0) then (some true) else (some (decide (9 < v.Kind)))) : Option Bool) = some false := by
      rw [lt_f (a := v.Kind) (b := 0) (by omega), lt_f (a := 9) (b := v.Kind) (by omega)]; rfl
    rw [e1, bs, cf]
    cases hs : (v.S.toList == (⟨#[]⟩ : ByteArray).toList)
    · rfl
    · simp only [nt, cf]
      by_cases h2 : v.Kind = 2
      · rw [h2]; rfl
      rw [eq_f h2]; simp only [cf]
      by_cases h3 : v.Kind = 3
      · rw [h3]; rfl
      rw [eq_f h3]; simp only [cf]
      by_cases h6 : v.Kind = 6
      · rw [h6]; rfl
      rw [eq_f h6]; simp only [cf]
      by_cases h7 : v.Kind = 7
      · rw [h7]; rfl
      rw [eq_f h7]; simp only [cf]
      by_cases h9 : v.Kind = 9
      · rw [h9]; rfl
      rw [eq_f h9, le_t (a := 0) (by omega), le_t (a := v.Kind) (by omega)]
      cases decide (v.N = 0) <;> rfl
theorem may_some (N : Nat) (v : DValue) : ∃ b, pantomimeref15_May_O N v = some b := by
  unfold pantomimeref15_May_O
  cases decide (v.Kind < 0) <;> cases decide (9 < v.Kind) <;> cases decide (v.Kind = 5) <;> cases decide (v.N = 0) <;> cases (v.S.toList == (⟨#[]⟩ : ByteArray).toList) <;> cases decide (v.Kind = 2) <;> cases decide (v.Kind = 3) <;> cases decide ((-9007199254740992) ≤ v.N) <;> cases decide (v.Kind = 6) <;> cases decide (v.Kind = 7) <;> cases decide (v.Kind = 9) <;> exact ⟨_, rfl⟩
/-- entries of a fixed size: by pieces, and by places -/
theorem entries_loop (N : Nat) (k : Nat) (hk : k = 2 ∨ k = 4) (l : List DValue) (hl : l.length ≤ 1000) : ∀ (m i : Nat), l.length < m + i → i ≤ l.length → (l.length - i) % k = 0 → ∃ b, pantomimeref15_entries_l5 N (k : Int) l m (i : Int) = some b ∧
    slices_Chunk_l4 N (liftR (fun x st => cell_entriesRight_b9 N (k : Int) x st)) l (k : Int) m (i : Int) (none, ()) = some (bif b then (none, ()) else (some .ret, ()))
  | 0, i, h, h2, _ => by omega
  | m + 1, i, h, h2, h3 => by
    by_cases hi : i < l.length
    · have hik : i + k ≤ l.length := by
        rcases hk with rfl | rfl <;> omega
      have hmin : (min (k : Int) (((l.drop (i : Int).toNat).take (l.length - (i : Int).toNat)).length : Int)) = k := by
        rw [List.length_take, List.length_drop, Int.toNat_natCast]; omega
      have hto : ((i : Int) + (k : Int)).toNat = i + k := by omega
      have hx : ∀ j, j < k → getE ((l.drop i).take k) (j : Int) = l[i + j]? := fun j hj => by
        rw [getE_nat, List.getElem?_take, if_pos hj, List.getElem?_drop]
      have hk0 := hx 0 (by omega)
      have hk1 := hx 1 (by omega)
      rw [List.getElem?_eq_getElem (by omega)] at hk0 hk1
      have hl0 : getE l (i : Int) = some l[i] := getE_n hi
      have hl1 : getE l ((i : Int) + 1) = some (l[i + 1]'(by omega)) := by
        have := getE_n (xs := l) (i := i + 1) (by omega)
        simpa using this
      obtain ⟨b, hb1, hb2⟩ := entries_loop N k hk l hl m (i + k) (by omega) hik (by rcases hk with rfl | rfl <;> omega)
      simp only [Int.natCast_add] at hb1 hb2
      have fin : ∀ b', (bif b' then some false else req (in64 ((i : Int) + (k : Int))) (pantomimeref15_entries_l5 N (k : Int) l m ((i : Int) + (k : Int)))) = some (bif b' then false else b) := fun b' => by
        cases b'
        · rw [cf, r64 (by omega) (by omega), hb1]; rfl
        · rfl
      have fin2 : ∀ b' : Bool, ((bif b' then (some (some Exit.ret, ())) else (some (none, ())) : Option (Option Exit × Unit)).map fun r => (r.1.isNone, r)) = some (!b', (bif b' then some Exit.ret else none, ())) := fun b' => by cases b' <;> rfl
      have goal : ∀ b', ((some (!b', ((bif b' then some Exit.ret else none : Option Exit), ())) : Option (Bool × (Option Exit × Unit))).bind fun y14 => bif !y14.1 then (some y14.2) else (req (in64 ((i : Int) + (k : Int))) ((slices_Chunk_l4 N (liftR (fun x st => cell_entriesRight_b9 N (k : Int) x st)) l (k : Int) m) ((i : Int) + (k : Int)) y14.2))) = some (bif (bif b' then false else b) then (none, ()) else (some .ret, ())) := fun b' => by
        cases b'
        · rw [bs]
          simp only [nf, nt, cf]
          rw [r64 (by omega) (by omega)]
          exact hb2
        · rfl
      have lift : ∀ (x : List DValue) (b' : Bool), cell_entriesRight_b9 N (k : Int) x () = (bif b' then (some (some Exit.ret, ())) else (some (none, ()))) → liftR (fun x st => cell_entriesRight_b9 N (k : Int) x st) x (none, ()) = some (!b', (bif b' then some Exit.ret else none, ())) := fun x b' hb => by
        unfold liftR
        simp only [hb]
        exact fin2 b'
      have key : ∃ b', ((getE l (i : Int)).bind fun x8 => (bif !decide (x8.Kind = 7) then (some true) else (req (in64 ((i : Int) + 1)) ((getE l ((i : Int) + 1)).bind fun x11 => some (decide (x11.Kind = 8))))).bind fun b9 => bif b9 then (some false) else ((bif decide ((k : Int) = 4) then (req (in64 ((i : Int) + 2)) ((getE l ((i : Int) + 2)).bind fun x15 => (pantomimeref15_none_O N x15 7).bind fun y16 => (bif !y16 then (some true) else (req (in64 ((i : Int) + 3)) ((getE l ((i : Int) + 3)).bind fun x19 => (pantomimeref15_num_O N x19 0 9007199254740992).bind fun y20 => some (!y20)))).bind fun b17 => some b17)) else (some false)).bind fun b13 => bif b13 then (some false) else (req (in64 ((i : Int) + (k : Int))) ((pantomimeref15_entries_l5 N (k : Int) l m) ((i : Int) + (k : Int)))))) = some (bif b' then false else b) ∧ cell_entriesRight_b9 N (k : Int) ((l.drop i).take k) () = (bif b' then (some (some Exit.ret, ())) else (some (none, ()))) := by
        unfold cell_entriesRight_b9
        simp only [Int.cast_ofNat_Int, Int.natCast_zero, Int.natCast_one] at hk0 hk1
        rw [hl0, bs, r64 (a := (i : Int) + 1) (by omega) (by omega), hl1, bs]
        have hk0' : getE ((l.drop i).take k) 0 = some l[i] := hk0
        have hk1' : getE ((l.drop i).take k) 1 = some (l[i + 1]'(by omega)) := hk1
        simp only [hk0', bs, hk1']
        cases h7 : (!decide (l[i].Kind = 7))
        · simp only [cf, bs]
          cases h8 : decide ((l[i + 1]'(by omega)).Kind = 8)
          · simp only [cf]
            rcases hk with rfl | rfl
            · simp only [show decide (((2 : Nat) : Int) = 4) = false from rfl, cf, bs]
              have f := fin false
              rw [cf] at f
              refine ⟨false, ?_, rfl⟩
              exact f
            · have hk2 := hx 2 (by omega)
              have hk3 := hx 3 (by omega)
              rw [List.getElem?_eq_getElem (by omega)] at hk2 hk3
              have hk2' : getE ((l.drop i).take 4) 2 = some (l[i + 2]'(by omega)) := hk2
              have hk3' : getE ((l.drop i).take 4) 3 = some (l[i + 3]'(by omega)) := hk3
              have hl2 : getE l ((i : Int) + 2) = some (l[i + 2]'(by omega)) := by
                have := getE_n (xs := l) (i := i + 2) (by omega)
                simpa using this
              have hl3 : getE l ((i : Int) + 3) = some (l[i + 3]'(by omega)) := by
                have := getE_n (xs := l) (i := i + 3) (by omega)
                simpa using this
              simp only [show decide (((4 : Nat) : Int) = 4) = true from rfl, ct]
              rw [r64 (a := (i : Int) + 2) (by omega) (by omega), hl2, bs, hk2', bs, r64 (a := (i : Int) + 3) (by omega) (by omega), hl3, bs, hk3']
              have en : ∀ v, cell_orNone_O N v 7 = pantomimeref15_none_O N v 7 := fun v => rfl
              have em : ∀ v, cell_number_O N v 0 9007199254740992 = pantomimeref15_num_O N v 0 9007199254740992 := fun v => rfl
              have hn : ∃ b1, pantomimeref15_none_O N (l[i + 2]'(by omega)) 7 = some b1 := by unfold pantomimeref15_none_O; cases decide ((l[i + 2]'(by omega)).Kind = 0) <;> exact ⟨_, rfl⟩
              have hm : ∃ b1, pantomimeref15_num_O N (l[i + 3]'(by omega)) 0 9007199254740992 = some b1 := by unfold pantomimeref15_num_O; cases decide ((l[i + 3]'(by omega)).Kind = 3) <;> cases decide (0 ≤ (l[i + 3]'(by omega)).N) <;> exact ⟨_, rfl⟩
              obtain ⟨b1, hn⟩ := hn
              obtain ⟨b2, hm⟩ := hm
              simp only [bs, en, em, hn, hm]
              cases b1
              · simp only [nf, ct, bs]
                exact ⟨true, rfl, rfl⟩
              · simp only [nt, cf, bs]
                exact ⟨!b2, fin (!b2), by cases b2 <;> rfl⟩
          · exact ⟨true, rfl, rfl⟩
        · exact ⟨true, rfl, rfl⟩
      obtain ⟨b', e1, e2⟩ := key
      refine ⟨bif b' then false else b, ?_, ?_⟩
      · rw [pantomimeref15_entries_l5_s, lt_t (by omega), ct]
        exact e1
      · rw [slices_Chunk_l4_s, lt_t (by omega), ct, hmin, req_t (show (0 : Int) ≤ (i : Int) ∧ (i : Int).toNat ≤ l.length ∧ l.length ≤ l.length from ⟨by omega, by omega, Nat.le_refl _⟩), r64 (a := (i : Int) + (k : Int)) (by omega) (by omega), r64 (a := (i : Int) + (k : Int)) (by omega) (by omega)]
        rw [req_t (show (0 : Int) ≤ (i : Int) ∧ (0 : Int) ≤ (i : Int) + (k : Int) ∧ (i : Int).toNat ≤ ((i : Int) + (k : Int)).toNat ∧ ((i : Int) + (k : Int)).toNat ≤ l.length from ⟨by omega, by omega, by omega, by omega⟩), hto, Int.toNat_natCast, show i + k - i = k by omega, lift _ b' e2]
        exact goal b'
    · rw [pantomimeref15_entries_l5_s, slices_Chunk_l4_s, lt_f (by omega), cf, cf]
      exact ⟨true, rfl, rfl⟩
theorem entries_eq (N : Nat) (hN : 2000 < N) (k : Nat) (hk : k = 2 ∨ k = 4) (l : List DValue) (hl : l.length ≤ 1000) : ∃ b, cell_entriesRight_O N l (k : Int) = some b ∧ pantomimeref15_entries_O N l (k : Int) = some b ∧ (b = true → l.length % k = 0) := by
  unfold cell_entriesRight_O pantomimeref15_entries_O
  have hk0 : (k : Int) ≠ 0 := by rcases hk with rfl | rfl <;> decide
  rw [req_t hk0, req_t hk0]
  have ht : (l.length : Int).tmod (k : Int) = ((l.length % k : Nat) : Int) := by
    rw [Int.tmod_eq_emod_of_nonneg (by omega)]; rfl
  rw [ht]
  by_cases h : l.length % k = 0
  · rw [eq_t (by omega)]
    obtain ⟨b, h1, h2⟩ := entries_loop N k hk l hl N 0 (by omega) (by omega) (by simpa using h)
    have e : slices_Chunk_191_O N l (k : Int) = some () := by
      unfold slices_Chunk_191_O; rw [lt_f (by rcases hk with rfl | rfl <;> omega), cf]
    unfold slices_Chunk_O
    simp only [nt, cf, e, bs]
    have h1' : pantomimeref15_entries_l5 N (k : Int) l N 0 = some b := h1
    have h2' : slices_Chunk_l4 N (liftR (fun x st => cell_entriesRight_b9 N (k : Int) x st)) l (k : Int) N 0 (none, ()) = some (bif b then (none, ()) else (some .ret, ())) := h2
    rw [h1', h2', bs]
    exact ⟨b, by cases b <;> rfl, rfl, fun _ => h⟩
  · rw [eq_f (by omega)]
    exact ⟨false, rfl, rfl, fun h => by cases h⟩
end Go.Proofs.YtmbaennilhdieaaGreat

/- Plain: valid cells and weak maps, on both sides. -/
namespace Go.Proofs.YtmbaennilhdieaaGreat
open Go.RowKit

theorem more_eq (N : Nat) (hN : 2000 < N) (c : DCell) (hc : c.More.length ≤ 1000) : cell_moreRight_O N c.Kind c.More = pantomimeref15_more_O N c := by
  obtain ⟨b2, h2, h2', -⟩ := entries_eq N hN 2 (.inl rfl) c.More hc
  obtain ⟨b4, h4, h4', -⟩ := entries_eq N hN 4 (.inr rfl) ((c.More.drop ((1 : Int).toNat)).take (c.More.length - (1 : Int).toNat)) (by rw [List.length_take, List.length_drop]; omega)
  have e2 : cell_entriesRight_O N c.More 2 = pantomimeref15_entries_O N c.More 2 := h2.trans h2'.symm
  have e4 : cell_entriesRight_O N ((c.More.drop ((1 : Int).toNat)).take (c.More.length - (1 : Int).toNat)) 4 = pantomimeref15_entries_O N ((c.More.drop ((1 : Int).toNat)).take (c.More.length - (1 : Int).toNat)) 4 := h4.trans h4'.symm
  unfold cell_moreRight_O pantomimeref15_more_O cell_moreRight_j4 pantomimeref15_more_j6
  rw [e2, e4]
  rfl
theorem may_lift (N : Nat) (c : DCell) (b : Bool) (v : DValue) : ∃ y, pantomimeref15_May_O N v = some y ∧ liftR (fun x st => cell_Right_b14 N c x st) (b, v) (none, ()) = some (y, (bif y then none else some Exit.ret, ())) := by
  obtain ⟨y, hy⟩ := may_some N v
  refine ⟨y, hy, ?_⟩
  unfold liftR cell_Right_b14
  simp only [may_eq, hy, bs]
  cases y <;> rfl
theorem right_more (N : Nat) (c : DCell) (hc : c.More.length ≤ 1000) : ∀ (m i : Nat), c.More.length < m + i → i ≤ c.More.length → ∃ b, pantomimeref15_Right_l20 N c m (i : Int) = (bif b then pantomimeref15_Right_j19 N c else some false) ∧
    cell_all_c1_l15 N (liftR (fun x st => cell_Right_b14 N c x st)) c m (i : Int) (none, ()) = some (bif b then none else some Exit.ret, ())
  | 0, i, h, h2 => by omega
  | m + 1, i, h, h2 => by
    rw [pantomimeref15_Right_l20_s, cell_all_c1_l15_s]
    by_cases hi : i < c.More.length
    · rw [lt_t (by omega), ct, ct, getE_n hi, bs, bs]
      have hs : (bif !decide (c.Kind = 8) then ((bif !decide (c.Kind = 10) then (some true) else (some (decide ((i : Int).tmod 2 = 0)))).bind fun b22 => some b22) else (some false)) = some (strongB c.Kind i) := by
        unfold strongB; cases decide (c.Kind = 8) <;> cases decide (c.Kind = 10) <;> rfl
      obtain ⟨y, h3, h4⟩ := may_lift N c (strongB c.Kind i) c.More[i]
      rw [hs, bs, h3, h4, bs, bs]
      cases y
      · simp only [nf, nt, ct, cf]
        exact ⟨false, cf.symm, by rw [cf]⟩
      · obtain ⟨b, h5, h6⟩ := right_more N c hc m (i + 1) (by omega) hi
        simp only [Int.natCast_add, Int.cast_ofNat_Int] at h5 h6
        simp only [nt, cf, ct]
        rw [r64 (by omega) (by omega), r64 (by omega) (by omega)]
        exact ⟨b, h5, h6⟩
    · rw [lt_f (by omega), cf, cf]
      exact ⟨true, ct.symm, by rw [ct]⟩
theorem right_slots (N : Nat) (hN : 2000 < N) (c : DCell) (hS : c.Slots.length ≤ 1000) (hc : c.More.length ≤ 1000) : ∀ (m i : Nat), c.Slots.length < m + i → i ≤ c.Slots.length → ∃ b, pantomimeref15_Right_l12 N c m (i : Int) = (bif b then pantomimeref15_Right_j19 N c else some false) ∧
    cell_all_c1_l6 N (liftR (fun x st => cell_Right_b14 N c x st)) c m (i : Int) (none, ()) = some (bif b then none else some Exit.ret, ())
  | 0, i, h, h2 => by omega
  | m + 1, i, h, h2 => by
    rw [pantomimeref15_Right_l12_s, cell_all_c1_l6_s]
    by_cases hi : i < c.Slots.length
    · rw [lt_t (by omega), ct, ct, getE_n hi, bs, bs]
      obtain ⟨y, h3, h4⟩ := may_lift N c true c.Slots[i]
      rw [h3, h4, bs, bs]
      cases y
      · simp only [nf, nt, ct, cf]
        exact ⟨false, cf.symm, by rw [cf]⟩
      · obtain ⟨b, h5, h6⟩ := right_slots N hN c hS hc m (i + 1) (by omega) hi
        simp only [Int.natCast_add, Int.cast_ofNat_Int] at h5 h6
        simp only [nt, cf, ct]
        rw [r64 (by omega) (by omega), r64 (by omega) (by omega)]
        exact ⟨b, h5, h6⟩
    · rw [lt_f (by omega), cf, cf]
      exact right_more N c hc N 0 (by omega) (by omega)
theorem right_eq (N : Nat) (hN : 2000 < N) (c : DCell) (hS : c.Slots.length ≤ 1000) (hc : c.More.length ≤ 1000) : cell_Right_O N c = pantomimeref15_Right_O N c := by
  unfold cell_Right_O pantomimeref15_Right_O cell_all_c1_O
  have hAge : ((bif !decide (c.Age = 0) then (some (!decide (c.Age = 1))) else (some false)).bind fun b10 => some b10) = (some (decide (c.Age < 0) || decide (1 < c.Age)) : Option Bool) := by
    by_cases h0 : c.Age = 0
    · rw [h0]; rfl
    · by_cases h1 : c.Age = 1
      · rw [h1]; rfl
      · rw [eq_f h0, eq_f h1]
        by_cases h2 : c.Age < 0
        · rw [lt_t h2]; rfl
        · rw [lt_t (a := 1) (b := c.Age) (by omega), lt_f (a := c.Age) (by omega)]; rfl
  obtain ⟨b, h1, h2⟩ := right_slots N hN c hS hc N 0 (by omega) (by omega)
  have h1' : pantomimeref15_Right_l12 N c N 0 = (bif b then pantomimeref15_Right_j19 N c else some false) := h1
  have h2' : cell_all_c1_l6 N (liftR (fun x st => cell_Right_b14 N c x st)) c N 0 (none, ()) = some (bif b then none else some Exit.ret, ()) := h2
  have e : cell_all_O N c = some () := rfl
  rw [hAge, h1', h2', e]
  have tail : ((some ()).bind fun (y12 : Unit) => (some ((bif b then none else some Exit.ret : Option Exit), ())).bind fun y15 => caseX y15.1 ((cell_slotsRight_O N c).bind fun y19 => (bif y19 then ((cell_moreRight_O N c.Kind c.More).bind fun y21 => some y21) else (some false)).bind fun b20 => some b20) (some false) (fun _ => none)) = (bif b then pantomimeref15_Right_j19 N c else some false) := by
    cases b
    · rfl
    · rw [slots_eq, more_eq N hN c hc]; rfl
  rw [tail]
  cases decide (c.Kind < 1) <;> cases decide (11 < c.Kind) <;> cases decide (c.Shape < 0) <;> cases decide (c.Flags < 0) <;> cases decide (63 < c.Flags) <;> cases decide (c.Age < 0) <;> cases decide (1 < c.Age) <;> rfl
theorem opt_bool {m : Option Bool} {x : Bool} : m = some x → (m.bind fun b => some b) = some x := fun h => by rw [h]; rfl
/-- a valid cell has an answer; a weak map that is valid holds pairs -/
theorem right_some (N : Nat) (hN : 2000 < N) (c : DCell) (hS : c.Slots.length ≤ 1000) (hc : c.More.length ≤ 1000) (h8 : c.Kind = 8) : ∃ b, pantomimeref15_Right_O N c = some b ∧ (b = true → c.More.length % 2 = 0) := by
  obtain ⟨b1, g1, -⟩ := right_slots N hN c hS hc N 0 (by omega) (by omega)
  have g1' : pantomimeref15_Right_l12 N c N 0 = (bif b1 then pantomimeref15_Right_j19 N c else some false) := g1
  obtain ⟨b2, -, h2, h3⟩ := entries_eq N hN 2 (.inl rfl) c.More hc
  have hm : pantomimeref15_more_O N c = some b2 := by
    unfold pantomimeref15_more_O pantomimeref15_more_j6
    rw [h8, lt_f (by omega)]
    show ((pantomimeref15_entries_O N c.More 2).bind fun y37 => some y37) = _
    exact opt_bool h2
  have hs : ∃ b3, pantomimeref15_slots_O N c = some b3 := by
    unfold pantomimeref15_slots_O
    rw [h8]
    have : pantomimeref15_Props_O N 8 = some true := rfl
    rw [this, bs, ct, bs, ct]
    by_cases hl : 1 ≤ (c.Slots.length : Int)
    · rw [le_t hl, ct, bs, getE_at (xs := c.Slots) (i := 0) (by omega) (by omega), bs]
      cases decide ((c.Slots.length : Int) ≤ 1025)
      · exact ⟨_, rfl⟩
      · cases decide (c.Slots[(0 : Int).toNat].Kind = 1) <;> exact ⟨_, rfl⟩
    · rw [le_f (by omega)]; exact ⟨_, rfl⟩
  obtain ⟨b3, hs⟩ := hs
  have hj : pantomimeref15_Right_j19 N c = some (b3 && b2) := by
    unfold pantomimeref15_Right_j19
    rw [hs, hm]
    cases b3 <;> rfl
  unfold pantomimeref15_Right_O
  rw [g1', hj]
  have fin : ∃ b, ((bif b1 then some (b3 && b2) else some false) : Option Bool) = some b ∧ (b = true → c.More.length % 2 = 0) := by
    cases b1
    · exact ⟨false, rfl, fun h => by cases h⟩
    · exact ⟨b3 && b2, rfl, fun h => h3 (by cases b3 <;> cases b2 <;> first | rfl | cases h)⟩
  obtain ⟨b, e1, e2⟩ := fin
  rw [e1]
  have ff : ∃ b', (some false : Option Bool) = some b' ∧ (b' = true → c.More.length % 2 = 0) := ⟨false, rfl, fun h => by cases h⟩
  cases decide (c.Kind < 1) <;> cases decide (11 < c.Kind) <;> cases decide (c.Shape < 0) <;> cases decide (c.Flags < 0) <;> cases decide (63 < c.Flags) <;> cases decide (c.Age < 0) <;> cases decide (1 < c.Age) <;> first | exact ff | exact ⟨b, rfl, e2⟩
/-- whether a cell is a valid weak map -/
def isWM (N : Nat) (c : DCell) : Bool := decide (c.Kind = 8) && (pantomimeref15_Right_O N c).getD false
theorem is_ref (N : Nat) (hN : 2000 < N) (c : DCell) (hS : c.Slots.length ≤ 1000) (hc : c.More.length ≤ 1000) : pantomimeref17_Is_O N c = some (isWM N c) ∧ weak_is_O N c = some (isWM N c) ∧ (isWM N c = true → c.More.length % 2 = 0) := by
  unfold pantomimeref17_Is_O weak_is_O isWM
  rw [right_eq N hN c hS hc]
  by_cases h8 : c.Kind = 8
  · obtain ⟨b, h1, h2⟩ := right_some N hN c hS hc h8
    rw [h1, h8]
    exact ⟨rfl, rfl, h2⟩
  · rw [eq_f h8]
    exact ⟨rfl, rfl, fun h => by cases h⟩
end Go.Proofs.YtmbaennilhdieaaGreat

/- Plain: what a weak map opens, on both sides. -/
namespace Go.Proofs.YtmbaennilhdieaaGreat
open Go.RowKit

theorem index_spec (N : Nat) (x : Int) (l : List Int) (hl : l.length ≤ 5000) : ∀ (m i : Nat), l.length < m + i → i ≤ l.length → Sat (slices_Index_l3 N x l m (i : Int)) fun r => decide (0 ≤ r) = decide (x ∈ l.drop i)
  | 0, i, h, h2 => by omega
  | m + 1, i, h, h2 => by
    rw [slices_Index_l3_s]
    by_cases hi : i < l.length
    · rw [lt_t (by omega), ct, getE_n hi, bs, List.drop_eq_getElem_cons hi]
      refine sat_dec (fun e => ?_) fun e => ?_
      · exact sat_some (by rw [decide_eq_true (by omega), decide_eq_true]; rw [e]; exact List.mem_cons_self ..)
      · rw [r64 (by omega) (by omega)]
        have := index_spec N x l hl m (i + 1) (by omega) hi
        simp only [Int.natCast_add, Int.cast_ofNat_Int] at this
        refine this.mono fun r hr => ?_
        rw [hr]
        have : (x ∈ l[i] :: l.drop (i + 1)) ↔ x ∈ l.drop (i + 1) := ⟨fun h => (List.mem_cons.1 h).resolve_left (fun e2 => e e2), List.mem_cons_of_mem _⟩
        rw [decide_eq_decide]; exact this.symm
    · rw [lt_f (by omega), cf, List.drop_eq_nil_of_le (by omega)]
      exact sat_some (by simp)
theorem contains_prog (N : Nat) (hN : 5000 < N) (l : List Int) (hl : l.length ≤ 5000) (x : Int) : slices_Contains_O N l x = some (decide (x ∈ l)) := by
  obtain ⟨r, h1, h2⟩ := index_spec N x l hl N 0 (by omega) (by omega)
  unfold slices_Contains_O slices_Index_O
  rw [show slices_Index_l3 N x l N 0 = some r from h1, bs, h2]
  rfl
theorem in17 (N : Nat) (hN : 5000 < N) (l : List Int) (hl : l.length ≤ 5000) (x : Int) : pantomimeref17_In_O N x l = some (decide (x ∈ l)) := by
  apply Sat.eq
  unfold pantomimeref17_In_O
  have key : ∀ (m i : Nat), l.length < m + i → i ≤ l.length → Sat (pantomimeref17_In_l3 N x l m (i : Int)) (· = decide (x ∈ l.drop i)) := by
    intro m
    induction m with
    | zero => intro i h h2; omega
    | succ m ih =>
      intro i h h2
      rw [pantomimeref17_In_l3_s]
      by_cases hi : i < l.length
      · rw [lt_t (by omega), ct, getE_n hi, bs, List.drop_eq_getElem_cons hi]
        refine sat_dec (fun e => ?_) fun e => ?_
        · exact sat_some (by rw [decide_eq_true]; rw [e]; exact List.mem_cons_self ..)
        · rw [r64 (by omega) (by omega)]
          have := ih (i + 1) (by omega) hi
          simp only [Int.natCast_add, Int.cast_ofNat_Int] at this
          refine this.mono fun r hr => ?_
          rw [hr]
          have : (x ∈ l[i] :: l.drop (i + 1)) ↔ x ∈ l.drop (i + 1) := ⟨fun h => (List.mem_cons.1 h).resolve_left (fun e2 => e e2.symm), List.mem_cons_of_mem _⟩
          rw [decide_eq_decide]; exact this.symm
      · rw [lt_f (by omega), cf, List.drop_eq_nil_of_le (by omega)]
        exact sat_some (by simp)
  exact key N 0 (by omega) (by omega)
theorem in19 (N : Nat) (hN : 5000 < N) (l : List Int) (hl : l.length ≤ 5000) (x : Int) : pantomimeref19_In_O N l x = some (decide (x ∈ l)) := by
  apply Sat.eq
  unfold pantomimeref19_In_O
  have key : ∀ (m i : Nat), l.length < m + i → i ≤ l.length → Sat (pantomimeref19_In_l3 N x l m (i : Int)) (· = decide (x ∈ l.drop i)) := by
    intro m
    induction m with
    | zero => intro i h h2; omega
    | succ m ih =>
      intro i h h2
      rw [pantomimeref19_In_l3_s]
      by_cases hi : i < l.length
      · rw [lt_t (by omega), ct, getE_n hi, bs, List.drop_eq_getElem_cons hi]
        refine sat_dec (fun e => ?_) fun e => ?_
        · exact sat_some (by rw [decide_eq_true]; rw [e]; exact List.mem_cons_self ..)
        · rw [r64 (by omega) (by omega)]
          have := ih (i + 1) (by omega) hi
          simp only [Int.natCast_add, Int.cast_ofNat_Int] at this
          refine this.mono fun r hr => ?_
          rw [hr]
          have : (x ∈ l[i] :: l.drop (i + 1)) ↔ x ∈ l.drop (i + 1) := ⟨fun h => (List.mem_cons.1 h).resolve_left (fun e2 => e e2.symm), List.mem_cons_of_mem _⟩
          rw [decide_eq_decide]; exact this.symm
      · rw [lt_f (by omega), cf, List.drop_eq_nil_of_le (by omega)]
        exact sat_some (by simp)
  exact key N 0 (by omega) (by omega)
def opens (p : Int → Bool) : List DValue → List Int
  | k :: v :: l => (bif hasB v && p k.N then [v.N] else []) ++ opens p l
  | _ => []
theorem opens_cons (p : Int → Bool) (k v : DValue) (l : List DValue) : opens p (k :: v :: l) = (bif hasB v && p k.N then [v.N] else []) ++ opens p l := rfl
theorem opens_len (p : Int → Bool) : ∀ l : List DValue, (opens p l).length ≤ l.length
  | [] => Nat.le_refl _
  | [_] => Nat.zero_le _
  | k :: v :: l => by
    have := opens_len p l
    rw [opens_cons, List.length_append]
    cases hasB v && p k.N <;> simp <;> omega
theorem opens_mem {p : Int → Bool} {x : Int} : ∀ {l : List DValue}, x ∈ opens p l → ∃ v ∈ l, v.N = x
  | [], h => by cases h
  | [_], h => by cases h
  | k :: v :: l, h => by
    rw [opens_cons, List.mem_append] at h
    rcases h with h | h
    · cases hb : hasB v && p k.N
      · rw [hb] at h; cases h
      · rw [hb] at h; exact ⟨v, by simp, (List.mem_singleton.1 h).symm⟩
    · obtain ⟨w, h1, h2⟩ := opens_mem h
      exact ⟨w, by simp [h1], h2⟩
theorem kind_has (v : DValue) : ((bif decide (v.Kind = 7) then (some true) else (some (decide (v.Kind = 9)))) : Option Bool) = some (hasB v) := by unfold hasB; cases decide (v.Kind = 7) <;> rfl
def opensL (N : Nat) (c : DCell) (l : List Int) : List Int := bif isWM N c then opens (fun x => decide (x ∈ l)) c.More else []
theorem opensL_len (N : Nat) (c : DCell) (l : List Int) : (opensL N c l).length ≤ c.More.length := by
  unfold opensL
  cases isWM N c
  · exact Nat.zero_le _
  · exact opens_len _ _
theorem opensL_mem {N : Nat} {c : DCell} {l : List Int} {x : Int} (h : x ∈ opensL N c l) : ∃ v ∈ c.Slots ++ c.More, v.N = x := by
  unfold opensL at h
  cases hw : isWM N c
  · rw [hw] at h; cases h
  · rw [hw] at h
    obtain ⟨v, h1, h2⟩ := opens_mem h
    exact ⟨v, by simp [h1], h2⟩
theorem opens_body (N : Nat) (hN : 5000 < N) (l : List Int) (hl : l.length ≤ 5000) (k v : DValue) (s : List Int) (hs : s.length ≤ 5000) : liftR (fun x st => weak_Opens_b12 N l x st) (k, v) (none, s) = some (true, (none, s ++ (bif hasB v && decide (k.N ∈ l) then [v.N] else []))) := by
  unfold liftR weak_Opens_b12
  simp only [kind_has, bs, contains_prog N hN l hl]
  cases hasB v
  · simp only [cf, bs, Bool.false_and, List.append_nil]; rfl
  · simp only [ct, bs, Bool.true_and]
    cases decide (k.N ∈ l)
    · simp only [cf, List.append_nil]; rfl
    · simp only [ct]
      rw [rF (by simp; omega)]
      rfl
theorem entries_prog (N : Nat) (hN : 5000 < N) (l : List Int) (hl : l.length ≤ 5000) (c : DCell) (hc : c.More.length ≤ 1000) (he : c.More.length % 2 = 0) : ∀ (m i : Nat) (s : List Int), c.More.length < m + i → i ≤ c.More.length → i % 2 = 0 → s.length ≤ i → weak_entries_c1_l4 N (liftR (fun x st => weak_Opens_b12 N l x st)) c m (i : Int) (none, s) = some (none, s ++ opens (fun x => decide (x ∈ l)) (c.More.drop i))
  | 0, i, s, h, h2, _, _ => by omega
  | m + 1, i, s, h, h2, h3, h4 => by
    rw [weak_entries_c1_l4_s, r64 (a := (i : Int) + 1) (by omega) (by omega)]
    by_cases hi : i < c.More.length
    · have hi1 : i + 1 < c.More.length := by omega
      have hl1 : getE c.More ((i : Int) + 1) = some c.More[i + 1] := by
        have := getE_n hi1
        simpa using this
      rw [lt_t (by omega), ct, getE_n hi, bs, r64 (a := (i : Int) + 1) (by omega) (by omega), hl1, bs, opens_body N hN l hl _ _ s (by omega), bs]
      simp only [nt, cf]
      rw [r64 (by omega) (by omega)]
      have hlen : (s ++ (bif hasB c.More[i + 1] && decide (c.More[i].N ∈ l) then [c.More[i + 1].N] else [])).length ≤ i + 2 := by
        cases hasB c.More[i + 1] && decide (c.More[i].N ∈ l) <;> simp <;> omega
      have := entries_prog N hN l hl c hc he m (i + 2) _ (by omega) (by omega) (by omega) hlen
      simp only [Int.natCast_add, Int.cast_ofNat_Int] at this
      rw [this, List.drop_eq_getElem_cons hi, List.drop_eq_getElem_cons hi1, opens_cons, List.append_assoc]
    · rw [lt_f (by omega), cf, List.drop_eq_nil_of_le (by omega)]
      simp [opens]
theorem opens_prog (N : Nat) (hN : 5000 < N) (l : List Int) (hl : l.length ≤ 5000) (c : DCell) (hS : c.Slots.length ≤ 1000) (hc : c.More.length ≤ 1000) : weak_Opens_O N c l = some (opensL N c l) := by
  obtain ⟨-, h1, h2⟩ := is_ref N (by omega) c hS hc
  unfold weak_Opens_O opensL weak_entries_c1_O
  rw [h1, bs]
  cases hw : isWM N c
  · rfl
  · have e : weak_entries_O N c = some () := rfl
    have := entries_prog N hN l hl c hc (h2 hw) N 0 [] (by omega) (by omega) rfl (by simp)
    simp only [nt, cf, ct, e, bs]
    have h3 : weak_entries_c1_l4 N (liftR (fun x st => weak_Opens_b12 N l x st)) c N 0 (none, []) = some (none, [] ++ opens (fun x => decide (x ∈ l)) (c.More.drop 0)) := this
    rw [h3, bs]
    rfl
theorem opens_ref (N : Nat) (hN : 5000 < N) (l : List Int) (hl : l.length ≤ 5000) (c : DCell) (hS : c.Slots.length ≤ 1000) (hc : c.More.length ≤ 1000) : pantomimeref17_Opens_O N c l = some (opensL N c l) := by
  obtain ⟨h1, -, h2⟩ := is_ref N (by omega) c hS hc
  unfold pantomimeref17_Opens_O opensL
  cases hw : isWM N c
  · obtain ⟨n, rfl⟩ : ∃ n, N = n + 1 := ⟨N - 1, by omega⟩
    rw [pantomimeref17_Opens_l7_s, h1, bs, hw]
    simp only [cf, bs]
    rfl
  · have he := h2 hw
    have key : ∀ (m i : Nat) (s : List Int), c.More.length < m + i → i ≤ c.More.length → i % 2 = 0 → s.length ≤ i → pantomimeref17_Opens_l7 N l c m s (i : Int) = some (s ++ opens (fun x => decide (x ∈ l)) (c.More.drop i)) := by
      intro m
      induction m with
      | zero => intro i s h h2; omega
      | succ m ih =>
        intro i s h h2 h3 h4
        rw [pantomimeref17_Opens_l7_s, h1, bs, hw, ct, bs]
        by_cases hi : i < c.More.length
        · have hi1 : i + 1 < c.More.length := by omega
          have hl1 : getE c.More ((i : Int) + 1) = some c.More[i + 1] := by
            have := getE_n hi1
            simpa using this
          rw [lt_t (by omega), ct, r64 (a := (i : Int) + 1) (by omega) (by omega), hl1, bs, getE_n hi, bs, in17 N hN l hl, bs]
          simp only [kind_has, bs]
          have hlen : (s ++ (bif hasB c.More[i + 1] && decide (c.More[i].N ∈ l) then [c.More[i + 1].N] else [])).length ≤ i + 2 := by
            cases hasB c.More[i + 1] && decide (c.More[i].N ∈ l) <;> simp <;> omega
          have := ih (i + 2) _ (by omega) (by omega) (by omega) hlen
          simp only [Int.natCast_add, Int.cast_ofNat_Int] at this
          rw [List.drop_eq_getElem_cons hi, List.drop_eq_getElem_cons hi1, opens_cons, ← List.append_assoc, ← this]
          unfold pantomimeref17_Opens_j14
          rw [r64 (a := (i : Int) + 2) (by omega) (by omega), r64 (a := (i : Int) + 2) (by omega) (by omega)]
          cases decide (c.More[i].N ∈ l)
          · simp only [cf, bs, Bool.and_false, List.append_nil]
          · cases hasB c.More[i + 1]
            · simp only [ct, cf, bs, Bool.and_true, List.append_nil]
            · simp only [ct, bs, Bool.and_true]
              rw [rF (by simp; omega)]
        · rw [lt_f (by omega), cf, List.drop_eq_nil_of_le (by omega)]
          simp [opens, pantomimeref17_Opens_j5]
    have := key N 0 [] (by omega) (by omega) rfl (by simp)
    simpa using this
end Go.Proofs.YtmbaennilhdieaaGreat

/- Plain: the traversal. -/
namespace Go.Proofs.YtmbaennilhdieaaGreat
open Go.RowKit

theorem nodup_le : ∀ (b : Nat) {l : List Int}, l.Nodup → (∀ x ∈ l, 1 ≤ x ∧ x ≤ (b : Int)) → l.length ≤ b
  | 0, l, _, h => by
    cases l with
    | nil => exact Nat.le_refl _
    | cons x l => have := h x (by simp); omega
  | b + 1, l, hn, h => by
    have h1 := nodup_le b (hn.erase ((b : Int) + 1)) fun x hx => by
      obtain ⟨h2, h3⟩ := hn.mem_erase_iff.1 hx
      have := h x h3
      omega
    have h2 := List.length_erase (a := (b : Int) + 1) (l := l)
    split at h2 <;> omega
theorem lk_mem (kv : List (Int × Unit)) (a : Int) : (lk kv a).isSome = decide (a ∈ kv.map (·.1)) := by
  unfold lk
  rw [Bool.eq_iff_iff]
  simp [List.find?_isSome, List.mem_map]
/-- the numbers of all values fit into an int -/
def W64 (m : DMemory) : Prop := ∀ c ∈ m.Young ++ m.Old, ∀ v ∈ c.Slots ++ c.More, in64 v.N
theorem W64.at_ {m : DMemory} (h : W64 m) (a : Int) : ∀ v ∈ (atM m a).Slots ++ (atM m a).More, in64 v.N := by
  unfold atM
  cases hc : cellAt m a with
  | none => intro v hv; simp [zeroC] at hv
  | some c => exact h c (cellAt_mem hc)
/-- what was discovered so far -/
structure Tr (m : DMemory) (all : List Int) (met : List (Int × Unit)) : Prop where
  nd : all.Nodup
  mem : ∀ x, x ∈ met.map (·.1) ↔ x ∈ all
  has : ∀ x ∈ all, hasM m x = true
theorem Tr.len {m : DMemory} {roots : List DValue} (hs : Small m roots) {all : List Int} {met : List (Int × Unit)} (h : Tr m all met) : all.length ≤ 1200 := nodup_le 1200 h.nd fun x hx => ⟨by have := hasM_pos (h.has x hx); omega, by have := hasM_le hs (h.has x hx); omega⟩
theorem Tr.in64 {m : DMemory} {roots : List DValue} (hs : Small m roots) {all : List Int} {met : List (Int × Unit)} (h : Tr m all met) {x : Int} (hx : x ∈ all) : in64 x := by
  have h1 := hasM_pos (h.has x hx)
  have h2 := hasM_le hs (h.has x hx)
  unfold Go.Proofs.YtmbaennilhdieaaGreat.in64; omega
theorem Tr.add {m : DMemory} {all : List Int} {met : List (Int × Unit)} (h : Tr m all met) {x : Int} (hx : x ∉ all) (hh : hasM m x = true) : Tr m (all ++ [x]) (upL met x ()) := ⟨List.nodup_append.2 ⟨h.nd, by simp, fun a ha b hb e => by rw [List.mem_singleton] at hb; subst hb; subst e; exact hx ha⟩, fun y => by
  rw [upL_mem, List.mem_append, List.mem_singleton, h.mem y]; exact Or.comm, fun y hy => by
  rcases List.mem_append.1 hy with hy | hy
  · exact h.has y hy
  · rw [List.mem_singleton] at hy; subst hy; exact hh⟩
/-- the first k discovered cells were visited -/
def Clo (m : DMemory) (all : List Int) (k : Nat) : Prop := ∀ (i : Nat) (a x : Int), i < k → all[i]? = some a → x ∈ leadsL (atM m a) → hasM m x = true → x ∈ all
theorem leads_ok {m : DMemory} {roots : List DValue} (hs : Small m roots) (hw : W64 m) (a : Int) : (leadsL (atM m a)).length ≤ 2000 ∧ ∀ x ∈ leadsL (atM m a), in64 x := by
  have h1 := hs.at_ a
  have h2 := leadsL_len (atM m a)
  refine ⟨by omega, fun x hx => ?_⟩
  obtain ⟨v, h3, rfl⟩ := leadsL_mem hx
  exact hw.at_ a v h3
end Go.Proofs.YtmbaennilhdieaaGreat

/- Plain: traversals of a graph with weak maps, as relations. No program in sight. -/
namespace Go.Proofs.YtmbaennilhdieaaGreat
open Go.RowKit

structure Gr where
  has : Int → Bool
  leads : Int → List Int
  opens : List Int → Int → List Int
def layL (has : Int → Bool) : List Int → List Int → List Int
  | row, [] => row
  | row, x :: l => layL has (bif has x && !decide (x ∈ row) then row ++ [x] else row) l
inductive Thr (g : Gr) : List Int → Nat → List Int → Prop
  | done {row : List Int} {k : Nat} : row.length ≤ k → Thr g row k row
  | step {row : List Int} {k : Nat} {a : Int} {r : List Int} : row[k]? = some a → Thr g (layL g.has row (g.leads a)) (k + 1) r → Thr g row k r
def passL (g : Gr) : List Int → List Int → List Int
  | row, [] => row
  | row, a :: avs => passL g (layL g.has row (g.opens row a)) avs
inductive Ord (g : Gr) : List Int → List Int → Prop
  | done {row : List Int} : passL g row row = row → Ord g row row
  | step {row r1 r : List Int} : passL g row row ≠ row → Thr g (passL g row row) row.length r1 → Ord g r1 r → Ord g row r
/-- l is the order of discovery from the addresses roots; b is what is discovered without weak maps -/
structure IsOrder (g : Gr) (roots : List Int) (b l : List Int) : Prop where
  strong : Thr g (layL g.has [] roots) 0 b
  all : Ord g b l

theorem layL_app (has : Int → Bool) : ∀ (row l : List Int), ∃ t, layL has row l = row ++ t ∧ (∀ x ∈ t, has x = true ∧ x ∈ l)
  | row, [] => ⟨[], by simp [layL], by simp⟩
  | row, x :: l => by
    unfold layL
    cases h : has x && !decide (x ∈ row) with
    | false =>
      obtain ⟨t, h1, h2⟩ := layL_app has row l
      exact ⟨t, h1, fun y hy => ⟨(h2 y hy).1, by simp [(h2 y hy).2]⟩⟩
    | true =>
      obtain ⟨t, h1, h2⟩ := layL_app has (row ++ [x]) l
      refine ⟨x :: t, by rw [cond_true, h1]; simp, fun y hy => ?_⟩
      rw [Bool.and_eq_true] at h
      rcases List.mem_cons.1 hy with e | hy
      · subst e; exact ⟨h.1, by simp⟩
      · exact ⟨(h2 y hy).1, by simp [(h2 y hy).2]⟩
theorem layL_two (has : Int → Bool) : ∀ (row l l' : List Int), layL has row (l ++ l') = layL has (layL has row l) l'
  | _, [], _ => rfl
  | row, x :: l, l' => by
    show layL has _ (l ++ l') = _
    rw [layL_two has _ l l']; rfl
theorem layL_nodup {has : Int → Bool} : ∀ {row : List Int} (l : List Int), row.Nodup → (layL has row l).Nodup
  | _, [], h => h
  | row, x :: l, h => by
    unfold layL
    cases h2 : has x && !decide (x ∈ row) with
    | false => exact layL_nodup l h
    | true =>
      rw [Bool.and_eq_true] at h2
      have hx : x ∉ row := by simpa using h2.2
      exact layL_nodup l (List.nodup_append.2 ⟨h, by simp, fun a ha b hb e => by rw [List.mem_singleton] at hb; subst hb; subst e; exact hx ha⟩)
theorem layL_new {has : Int → Bool} {row l : List Int} {x : Int} (h : x ∈ layL has row l) : x ∈ row ∨ (has x = true ∧ x ∈ l) := by
  obtain ⟨t, h1, h2⟩ := layL_app has row l
  rw [h1] at h
  rcases List.mem_append.1 h with h | h
  · exact .inl h
  · exact .inr (h2 x h)
theorem passL_app (g : Gr) : ∀ (row avs : List Int), ∃ t, passL g row avs = row ++ t
  | row, [] => ⟨[], by simp [passL]⟩
  | row, a :: avs => by
    obtain ⟨t, h1, -⟩ := layL_app g.has row (g.opens row a)
    obtain ⟨t2, h2⟩ := passL_app g (layL g.has row (g.opens row a)) avs
    exact ⟨t ++ t2, by unfold passL; rw [h2, h1, List.append_assoc]⟩
theorem passL_two (g : Gr) : ∀ (row avs bs : List Int), passL g row (avs ++ bs) = passL g (passL g row avs) bs
  | _, [], _ => rfl
  | row, a :: avs, bs => by
    show passL g _ (avs ++ bs) = _
    rw [passL_two g _ avs bs]; rfl
theorem passL_nodup {g : Gr} : ∀ {row : List Int} (avs : List Int), row.Nodup → (passL g row avs).Nodup
  | _, [], h => h
  | _, _ :: avs, h => passL_nodup avs (layL_nodup _ h)
theorem Thr.app {g : Gr} {row r : List Int} {k : Nat} (h : Thr g row k r) : ∃ t, r = row ++ t := by
  induction h with
  | done _ => exact ⟨[], by simp⟩
  | step _ _ ih =>
    rename_i row _ a _ _ _
    obtain ⟨t, rfl⟩ := ih
    obtain ⟨t2, h1, -⟩ := layL_app g.has row (g.leads a)
    exact ⟨t2 ++ t, by rw [h1, List.append_assoc]⟩
theorem Thr.nodup {g : Gr} {row r : List Int} {k : Nat} (h : Thr g row k r) (hn : row.Nodup) : r.Nodup := by
  induction h with
  | done _ => exact hn
  | step _ _ ih => exact ih (layL_nodup _ hn)
theorem Thr.det {g : Gr} {row r r' : List Int} {k : Nat} (h : Thr g row k r) (h' : Thr g row k r') : r = r' := by
  induction h with
  | done hk =>
    cases h' with
    | done _ => rfl
    | step ha _ => rw [List.getElem?_eq_none hk] at ha; cases ha
  | step ha _ ih =>
    cases h' with
    | done hk => rw [List.getElem?_eq_none hk] at ha; cases ha
    | step ha' h2 => rw [ha] at ha'; cases ha'; exact ih h2
theorem Ord.det {g : Gr} {row r r' : List Int} (h : Ord g row r) (h' : Ord g row r') : r = r' := by
  induction h with
  | done hk =>
    cases h' with
    | done _ => rfl
    | step ha _ _ => exact absurd hk ha
  | step ha h1 _ ih =>
    cases h' with
    | done hk => exact absurd hk ha
    | step _ h1' h2 => exact ih (h1.det h1' ▸ h2)
theorem IsOrder.det {g : Gr} {roots b l b' l' : List Int} (h : IsOrder g roots b l) (h' : IsOrder g roots b' l') : b = b' ∧ l = l' := by
  obtain ⟨h1, h2⟩ := h
  obtain ⟨h3, h4⟩ := h'
  have e := h1.det h3
  subst e
  exact ⟨rfl, h2.det h4⟩
theorem Ord.nodup {g : Gr} {row r : List Int} (h : Ord g row r) (hn : row.Nodup) : r.Nodup := by
  induction h with
  | done _ => exact hn
  | step _ h1 _ ih => exact ih (h1.nodup (passL_nodup _ hn))
theorem IsOrder.nodup {g : Gr} {roots b l : List Int} (h : IsOrder g roots b l) : b.Nodup ∧ l.Nodup :=
  have hb := h.strong.nodup (layL_nodup _ List.nodup_nil)
  ⟨hb, h.all.nodup hb⟩
/-- the first k were visited -/
def CloG (g : Gr) (row : List Int) (k : Nat) : Prop := ∀ (i : Nat) (a x : Int), i < k → row[i]? = some a → x ∈ g.leads a → g.has x = true → x ∈ row
/-- what is closed holds what is discovered -/
structure ClosedS (g : Gr) (S : Int → Prop) : Prop where
  leads : ∀ a, S a → ∀ x ∈ g.leads a, g.has x = true → S x
  opens : ∀ row : List Int, (∀ x ∈ row, S x) → ∀ a, S a → ∀ x ∈ g.opens row a, g.has x = true → S x
end Go.Proofs.YtmbaennilhdieaaGreat

/- Plain: the program's traversal is the one of the relation. -/
namespace Go.Proofs.YtmbaennilhdieaaGreat
open Go.RowKit

def grM (N : Nat) (m : DMemory) : Gr := ⟨hasM m, fun a => leadsL (atM m a), fun row a => opensL N (atM m a) row⟩
def addrL (l : List DValue) : List Int := (l.filter hasB).map (·.N)
theorem addrL_app (l l' : List DValue) : addrL (l ++ l') = addrL l ++ addrL l' := by unfold addrL; simp
theorem addrL_mem {l : List DValue} {x : Int} : x ∈ addrL l ↔ ∃ v ∈ l, hasB v = true ∧ v.N = x := by
  unfold addrL; simp only [List.mem_map, List.mem_filter]
  constructor
  · rintro ⟨v, ⟨h1, h2⟩, h3⟩; exact ⟨v, h1, h2, h3⟩
  · rintro ⟨v, h1, h2, h3⟩; exact ⟨v, ⟨h1, h2⟩, h3⟩
theorem lay_fun (N : Nat) {m : DMemory} {roots : List DValue} (hN : 5000 < N) (hs : Small m roots) (d : Int) (l : List Int) (hl : l.length ≤ 2000) (h64 : ∀ x ∈ l, in64 x) {all : List Int} {met : List (Int × Unit)} (ht : Tr m all met) :
    Sat (reach_row_lay_O N ⟨m, all, met, d⟩ l) fun r => r.m_ = m ∧ r.done_ = d ∧ Tr m r.all_ r.met_ ∧ r.all_ = layL (hasM m) all l := by
  unfold reach_row_lay_O
  refine loop_inv (fun k i (s : List Int × List (Int × Unit)) => reach_row_lay_l7 N l ⟨m, all, met, d⟩ k (i : Int) s.1 s.2) l.length (fun i s => Tr m s.1 s.2 ∧ s.1 = layL (hasM m) all (l.take i)) _ ?_ ?_ N 0 (all, met) (by omega) (by omega) ⟨ht, rfl⟩
  · rintro k i ⟨al, mt⟩ hi ⟨h1, h2⟩ go
    show Sat (reach_row_lay_l7 N l ⟨m, all, met, d⟩ (k + 1) i al mt) _
    simp only at h1 h2
    have hx64 := h64 l[i] (List.getElem_mem _)
    have hnext : layL (hasM m) all (l.take (i + 1)) = (bif hasM m l[i] && !decide (l[i] ∈ al) then al ++ [l[i]] else al) := by
      rw [take_succ_get hi, layL_two, ← h2]; rfl
    rw [reach_row_lay_l7_s, lt_t (by omega), ct, getE_n hi, bs, lk_mem]
    unfold reach_row_lay_j12
    rw [r64 (a := (i : Int) + 1) (by omega) (by omega), r64 (a := (i : Int) + 1) (by omega) (by omega)]
    by_cases hm : l[i] ∈ al
    · rw [decide_eq_true ((h1.mem _).2 hm)]
      simp only [nt, cf, bs]
      exact go (al, mt) ⟨h1, by rw [hnext, decide_eq_true hm]; simp⟩
    · rw [decide_eq_false (fun h => hm ((h1.mem _).1 h))]
      simp only [nf, ct, bs, has_prog N m _ hx64]
      cases hh : hasM m l[i]
      · simp only [cf]
        exact go (al, mt) ⟨h1, by rw [hnext, hh]; rfl⟩
      · simp only [ct]
        have hlen := h1.len hs
        rw [rF (by simp; omega)]
        exact go (al ++ [l[i]], upL mt l[i] ()) ⟨h1.add hm hh, by rw [hnext, hh, decide_eq_false hm]; rfl⟩
  · rintro k ⟨al, mt⟩ ⟨h1, h2⟩
    show Sat (reach_row_lay_l7 N l ⟨m, all, met, d⟩ (k + 1) _ al mt) _
    rw [reach_row_lay_l7_s, lt_f (by omega), cf]
    exact sat_some ⟨rfl, rfl, h1, by simpa using h2⟩
theorem through_fun (N : Nat) (hN : 5000 < N) {m : DMemory} {roots : List DValue} (hs : Small m roots) (hw : W64 m) {all : List Int} {met : List (Int × Unit)} (ht : Tr m all met) (k : Nat) (hk : k ≤ all.length) :
    Sat (reach_row_through_O N ⟨m, all, met, (k : Int)⟩) fun r => r.m_ = m ∧ r.done_ = (r.all_.length : Int) ∧ Tr m r.all_ r.met_ ∧ Thr (grM N m) all k r.all_ := by
  unfold reach_row_through_O
  refine loop_dec (fun f (s : List Int × List (Int × Unit) × Nat) => reach_row_through_l6 N f m.Young m.Old s.1 s.2.1 (s.2.2 : Int)) (fun s => 1300 - s.2.2) (fun s => Tr m s.1 s.2.1 ∧ s.2.2 ≤ s.1.length ∧ ∀ r, Thr (grM N m) s.1 s.2.2 r → Thr (grM N m) all k r) _ ?_ N (all, met, k) (by show 1300 - k < N; omega) ⟨ht, hk, fun _ h => h⟩
  rintro f ⟨al, mt, j⟩ ⟨h1, h3, h4⟩ go
  show Sat (reach_row_through_l6 N (f + 1) m.Young m.Old al mt (j : Int)) _
  simp only at h1 h3 h4
  have hlen := h1.len hs
  rw [reach_row_through_l6_s]
  by_cases hj : j < al.length
  · have hx := List.getElem_mem hj
    have hat := at_prog N hs al[j] (h1.in64 hs hx)
    have hsm := hs.at_ al[j]
    obtain ⟨hl1, hl2⟩ := leads_ok hs hw al[j]
    rw [lt_t (by omega), ct, getE_n hj, bs]
    have hat' : reach_At_O N ⟨m.Young, m.Old⟩ al[j] = some (atM m al[j]) := hat
    rw [hat', bs, leads_prog N (by omega) _ (by omega) (by omega), bs]
    refine Sat.bind (lay_fun N hN hs (j : Int) _ hl1 hl2 h1) ?_
    rintro ⟨m', al', mt', d'⟩ ⟨e1, e2, h5, h6⟩
    simp only at e1 e2 h5 h6
    subst e1 e2
    have hlen' := h5.len hs
    dsimp only
    rw [r64 (by omega) (by omega)]
    have hge : al.length ≤ al'.length := by
      obtain ⟨t, e, -⟩ := layL_app (hasM m') al (leadsL (atM m' al[j]))
      rw [h6, e, List.length_append]; omega
    have hgo := go (al', mt', j + 1) (by show 1300 - (j + 1) < 1300 - j; omega) ⟨h5, by show j + 1 ≤ al'.length; omega, fun r hr => h4 r (.step (List.getElem?_eq_getElem hj) (by rw [h6] at hr; exact hr))⟩
    simpa using hgo
  · have : j = al.length := by omega
    subst this
    rw [lt_f (by omega), cf]
    exact sat_some ⟨rfl, rfl, h1, h4 _ (.done (Nat.le_refl _))⟩
theorem begin_fun (N : Nat) (hN : 5000 < N) {m : DMemory} {roots : List DValue} (hs : Small m roots) (hw : W64 m) (hr : ∀ v ∈ roots, in64 v.N) :
    Sat (reach_begin_O N m roots) fun r => r.m_ = m ∧ r.done_ = (r.all_.length : Int) ∧ Tr m r.all_ r.met_ ∧ Thr (grM N m) (layL (hasM m) [] (addrL roots)) 0 r.all_ := by
  have hrl := hs.roots
  unfold reach_begin_O
  refine loop_inv (fun k i (s : List Int × List (Int × Unit)) => reach_begin_l14 N roots k (i : Int) m.Young m.Old s.1 s.2 0) roots.length (fun i s => Tr m s.1 s.2 ∧ s.1 = layL (hasM m) [] (addrL (roots.take i))) _ ?_ ?_ N 0 ([], []) (by omega) (by omega) ⟨⟨by simp, by simp, by simp⟩, rfl⟩
  · rintro k i ⟨al, mt⟩ hi ⟨h1, h2⟩ go
    show Sat (reach_begin_l14 N roots (k + 1) (i : Int) m.Young m.Old al mt 0) _
    simp only at h1 h2
    have hx64 := hr roots[i] (List.getElem_mem _)
    have ha : reach_address_O N roots[i] = some (roots[i].N, hasB roots[i]) := by
      unfold reach_address_O; rw [kind_has, bs]
    have hnext : layL (hasM m) [] (addrL (roots.take (i + 1))) = layL (hasM m) al (addrL [roots[i]]) := by
      rw [take_succ_get hi, addrL_app, layL_two, ← h2]
    rw [reach_begin_l14_s, lt_t (by omega), ct, getE_n hi, bs]
    unfold reach_begin_c1_O
    rw [ha, bs]
    cases hb : hasB roots[i]
    · simp only [cf, bs]
      rw [r64 (by omega) (by omega)]
      refine go (al, mt) ⟨h1, ?_⟩
      rw [hnext]; simp [addrL, hb, layL]
    · simp only [ct]
      obtain ⟨⟨m', al', mt', d'⟩, e0, e1, e2, h5, h6⟩ := lay_fun N hN hs 0 [roots[i].N] (by simp) (by intro x hx; rw [List.mem_singleton] at hx; subst hx; exact hx64) h1
      simp only at e1 e2 h5 h6
      subst e1 e2
      have e0' : reach_row_lay_O N ⟨⟨m'.Young, m'.Old⟩, al, mt, 0⟩ [roots[i].N] = some ⟨m', al', mt', 0⟩ := e0
      rw [e0', bs, bs]
      dsimp only
      rw [r64 (by omega) (by omega)]
      refine go (al', mt') ⟨h5, ?_⟩
      show al' = _
      rw [hnext, h6]; simp [addrL, hb]
  · rintro k ⟨al, mt⟩ ⟨h1, h2⟩
    show Sat (reach_begin_l14 N roots (k + 1) _ m.Young m.Old al mt 0) _
    rw [reach_begin_l14_s, lt_f (by omega), cf]
    unfold reach_begin_j8
    refine Sat.bind (through_fun N hN hs hw h1 0 (Nat.zero_le _)) ?_
    rintro r ⟨e1, e2, h5, h6⟩
    simp only [List.take_length] at h2
    exact sat_some ⟨e1, e2, h5, by rw [← h2]; exact h6⟩
theorem opens_ok (N : Nat) {m : DMemory} {roots : List DValue} (hs : Small m roots) (hw : W64 m) (a : Int) (l : List Int) : (opensL N (atM m a) l).length ≤ 2000 ∧ ∀ x ∈ opensL N (atM m a) l, in64 x := by
  have h1 := hs.at_ a
  have h2 := opensL_len N (atM m a) l
  refine ⟨by omega, fun x hx => ?_⟩
  obtain ⟨v, h3, rfl⟩ := opensL_mem hx
  exact hw.at_ a v h3
theorem pass_fun (N : Nat) (hN : 5000 < N) {m : DMemory} {roots : List DValue} (hs : Small m roots) (hw : W64 m) {all : List Int} {met : List (Int × Unit)} (ht : Tr m all met) (d : Int) :
    Sat (reach_row_pass_O N ⟨m, all, met, d⟩) fun r => r.2.m_ = m ∧ r.2.done_ = d ∧ Tr m r.2.all_ r.2.met_ ∧ r.1 = decide ((all.length : Int) < (r.2.all_.length : Int)) ∧ r.2.all_ = passL (grM N m) all all := by
  have hlen := ht.len hs
  unfold reach_row_pass_O
  refine loop_inv (fun k i (s : List Int × List (Int × Unit)) => reach_row_pass_l13 N ⟨m, all, met, d⟩ k (i : Int) m.Young m.Old s.1 s.2 d) all.length (fun i s => Tr m s.1 s.2 ∧ (∃ t, s.1 = all ++ t) ∧ s.1 = passL (grM N m) all (all.take i)) _ ?_ ?_ N 0 (all, met) (by omega) (by omega) ⟨ht, ⟨[], by simp⟩, rfl⟩
  · rintro k i ⟨al, mt⟩ hi ⟨h1, ⟨t, h2⟩, h3⟩ go
    show Sat (reach_row_pass_l13 N ⟨m, all, met, d⟩ (k + 1) (i : Int) m.Young m.Old al mt d) _
    simp only at h1 h2 h3
    have hlen1 := h1.len hs
    have htk : List.take all.length al = all := by rw [h2, List.take_left']; rfl
    have hx := List.getElem_mem hi
    have hsm := hs.at_ all[i]
    have hat : reach_At_O N ⟨m.Young, m.Old⟩ all[i] = some (atM m all[i]) := at_prog N hs all[i] (ht.in64 hs hx)
    have hnext : passL (grM N m) all (all.take (i + 1)) = layL (hasM m) al (opensL N (atM m all[i]) al) := by
      rw [take_succ_get hi, passL_two, ← h3]; rfl
    rw [reach_row_pass_l13_s]
    simp only [List.take_length]
    rw [lt_t (by omega), ct, htk, getE_n hi, bs, hat, bs]
    unfold reach_row_pass_j21
    by_cases h8 : (atM m all[i]).Kind = 8
    · rw [eq_t h8, ct, opens_prog N hN al (by omega) _ (by omega) (by omega), bs]
      obtain ⟨hl1, hl2⟩ := opens_ok N hs hw all[i] al
      obtain ⟨⟨m', al', mt', d'⟩, e0, e1, e2, h5, h6⟩ := lay_fun N hN hs d _ hl1 hl2 h1
      simp only at e1 e2 h5 h6
      subst e1 e2
      have e0' : reach_row_lay_O N ⟨⟨m'.Young, m'.Old⟩, al, mt, d'⟩ (opensL N (atM m' all[i]) al) = some ⟨m', al', mt', d'⟩ := e0
      rw [e0', bs]
      dsimp only
      rw [r64 (by omega) (by omega)]
      obtain ⟨t', e', -⟩ := layL_app (hasM m') al (opensL N (atM m' all[i]) al)
      exact go (al', mt') ⟨h5, ⟨t ++ t', by show al' = _; rw [h6, e', h2, List.append_assoc]⟩, by show al' = _; rw [hnext, h6]⟩
    · rw [eq_f h8, cf, r64 (by omega) (by omega)]
      refine go (al, mt) ⟨h1, ⟨t, h2⟩, ?_⟩
      have h0 : opensL N (atM m all[i]) al = [] := by
        unfold opensL isWM
        rw [eq_f h8]; rfl
      show al = _
      rw [hnext, h0]; rfl
  · rintro k ⟨al, mt⟩ ⟨h1, ⟨t, h2⟩, h3⟩
    show Sat (reach_row_pass_l13 N ⟨m, all, met, d⟩ (k + 1) _ m.Young m.Old al mt d) _
    rw [reach_row_pass_l13_s]
    simp only [List.take_length] at h3 ⊢
    rw [lt_f (by omega), cf]
    exact sat_some ⟨rfl, rfl, h1, rfl, h3⟩
/-- Order, Live and Strong, as the relation has them -/
theorem order_fun (N : Nat) (hN : 5000 < N) {m : DMemory} {roots : List DValue} (hs : Small m roots) (hw : W64 m) (hr : ∀ v ∈ roots, in64 v.N) :
    ∃ b all, IsOrder (grM N m) (addrL roots) b.all_ all ∧ all.length ≤ 1200 ∧ b.all_.length ≤ 1200 ∧ reach_begin_O N m roots = some b ∧ reach_Order_O N m roots = some all := by
  obtain ⟨⟨m', al0, mt0, d0⟩, e0, e1, e2, h1, h2⟩ := begin_fun N hN hs hw hr
  simp only at e1 e2 h1 h2
  subst e1 e2
  have hlen0 := h1.len hs
  have key : Sat (reach_Order_O N m' roots) fun all => Ord (grM N m') al0 all ∧ all.length ≤ 1200 := by
    unfold reach_Order_O
    rw [e0, bs]
    refine loop_dec (fun f (s : List Int × List (Int × Unit)) => reach_Order_l17 N f m'.Young m'.Old s.1 s.2 (s.1.length : Int)) (fun s => 1300 - s.1.length) (fun s => Tr m' s.1 s.2 ∧ ∀ r, Ord (grM N m') s.1 r → Ord (grM N m') al0 r) _ ?_ N (al0, mt0) (by show 1300 - al0.length < N; omega) ⟨h1, fun _ h => h⟩
    rintro f ⟨al, mt⟩ ⟨h4, h5⟩ go
    show Sat (reach_Order_l17 N (f + 1) m'.Young m'.Old al mt (al.length : Int)) _
    simp only at h4 h5
    have hlen := h4.len hs
    rw [reach_Order_l17_s]
    obtain ⟨⟨b, m2, al2, mt2, d2⟩, g0, g1, g2, g3, g5, g6⟩ := pass_fun N hN hs hw h4 (al.length : Int)
    simp only at g1 g2 g3 g5 g6
    subst g1 g2
    have hlen2 := g3.len hs
    have g0' : reach_row_pass_O N ⟨⟨m2.Young, m2.Old⟩, al, mt, (al.length : Int)⟩ = some (b, ⟨m2, al2, mt2, (al.length : Int)⟩) := g0
    obtain ⟨t2, ht2⟩ := passL_app (grM N m2) al al
    rw [g0', bs]
    dsimp only
    rw [g5]
    refine sat_dec (fun hlt => ?_) fun hge => ?_
    · refine Sat.bind (through_fun N hN hs hw g3 al.length (by omega)) ?_
      rintro ⟨m3, al3, mt3, d3⟩ ⟨k1, k2, k3, k4⟩
      simp only at k1 k2 k3 k4
      subst k1 k2
      have hlen3 := k3.len hs
      refine go (al3, mt3) ?_ ⟨k3, fun r h => h5 r (.step ?_ (by rw [← g6]; exact k4) h)⟩
      · show 1300 - al3.length < 1300 - al.length
        obtain ⟨t3, e3⟩ := k4.app
        have : al2.length ≤ al3.length := by rw [e3, List.length_append]; omega
        omega
      · rw [← g6]; intro e; rw [e] at hlt; omega
    · have e : al2 = al := by
        rw [ht2] at g6
        have h0 : t2 = [] := List.eq_nil_of_length_eq_zero (by rw [g6, List.length_append] at hge; omega)
        rw [g6, h0, List.append_nil]
      subst e
      unfold reach_Order_j11
      exact sat_some ⟨h5 _ (.done g6.symm), by omega⟩
  obtain ⟨all, k1, k2, k3⟩ := key
  exact ⟨⟨m', al0, mt0, (al0.length : Int)⟩, all, ⟨h2, k2⟩, k3, hlen0, e0, k1⟩
end Go.Proofs.YtmbaennilhdieaaGreat

/- Plain: sorted addresses, the examples, small memories. -/
namespace Go.Proofs.YtmbaennilhdieaaGreat
open Go.RowKit

theorem sortL_mem (l : List Int) (x : Int) : x ∈ sortL l ↔ x ∈ l := by unfold sortL; exact List.mem_mergeSort
theorem sortL_asc {l : List Int} (h : l.Nodup) : (sortL l).Pairwise (· < ·) := by
  have h1 : (sortL l).Pairwise fun a b => decide (a ≤ b) = true := List.pairwise_mergeSort (by intro a b c h1 h2; simp at *; omega) (by intro a b; simp; omega) l
  have h2 : (sortL l).Nodup := (List.mergeSort_perm l _).nodup_iff.2 h
  rw [List.nodup_iff_pairwise_ne] at h2
  exact h1.imp₂ (fun a b h3 h4 => by simp at h3; omega) h2
theorem sortL_eq {l s : List Int} (h : l.Nodup) (hs : s.Pairwise (· < ·)) (he : ∀ x, x ∈ l ↔ x ∈ s) : sortL l = s := asc_ext (sortL_asc h) hs fun x => (sortL_mem l x).trans (he x)
theorem sort_spec (N : Nat) (l : List Int) (h : l.length ≤ 5000) : slices_Sort_O N l = some (sortL l) := by
  unfold slices_Sort_O; rw [rF (by omega)]
theorem values_spec (N : Nat) (l : List Int) (hl : l.length ≤ 2000) : ∀ (m i : Nat) (s : List Int), l.length < m + i → i ≤ l.length → s.length ≤ i → slices_Values_l3 N (liftR (fun x st => slices_AppendSeq_V_b5 N x st)) l m (i : Int) (none, s) = some (none, s ++ l.drop i)
  | 0, i, s, h, h2, _ => by omega
  | m + 1, i, s, h, h2, h3 => by
    rw [slices_Values_l3_s]
    by_cases hi : i < l.length
    · have e : liftR (fun x st => slices_AppendSeq_V_b5 N x st) l[i] (none, s) = some (true, (none, s ++ [l[i]])) := by
        unfold liftR slices_AppendSeq_V_b5
        simp only
        rw [rF (by simp; omega)]
        rfl
      rw [lt_t (by omega), ct, getE_n hi, bs, e, bs]
      simp only [nt, cf]
      rw [r64 (by omega) (by omega)]
      have := values_spec N l hl m (i + 1) (s ++ [l[i]]) (by omega) hi (by simp; omega)
      simp only [Int.natCast_add, Int.cast_ofNat_Int] at this
      rw [this, List.drop_eq_getElem_cons hi, List.append_assoc]; rfl
    · rw [lt_f (by omega), cf, List.drop_eq_nil_of_le (by omega)]
      simp
theorem sorted_spec (N : Nat) (hN : 5000 < N) (l : List Int) (hl : l.length ≤ 2000) : slices_Sorted_V_O N l = some (sortL l) := by
  have h := values_spec N l hl N 0 [] (by omega) (by omega) (by simp)
  have h' : slices_Values_l3 N (liftR (fun x st => slices_AppendSeq_V_b5 N x st)) l N 0 (none, []) = some (none, [] ++ l.drop 0) := h
  have e1 : slices_AppendSeq_V_O N [] l = some l := by
    unfold slices_AppendSeq_V_O slices_Values_O
    rw [h', bs]; rfl
  unfold slices_Sorted_V_O slices_Collect_V_O
  rw [e1, bs, bs, sort_spec N l (by omega), bs]

def obj (n : Int) : DValue := ⟨7, n, ⟨#[]⟩⟩
def boxC' (l : List DValue) : DCell := ⟨11, 0, 0, 0, [], l⟩
def exM : DMemory := ⟨[⟨11, 0, 0, 0, [], [⟨7, 3, ⟨#[]⟩⟩, ⟨7, 2, ⟨#[]⟩⟩]⟩, ⟨11, 0, 0, 0, [], []⟩], [⟨11, 0, 0, 0, [], []⟩]⟩
def exW : DMemory := ⟨[⟨8, 0, 0, 0, [⟨1, 0, ⟨#[]⟩⟩], [⟨7, 3, ⟨#[]⟩⟩, ⟨7, 5, ⟨#[]⟩⟩]⟩, ⟨11, 0, 0, 0, [], []⟩, ⟨11, 0, 0, 0, [], []⟩], []⟩
theorem g1 : reach_Order_O 6000 exM [⟨7, 1, ⟨#[]⟩⟩] = some [1, 3, 2] := by kernel_rfl
theorem g2 : reach_Order_O 6000 exW [⟨7, 1, ⟨#[]⟩⟩] = some [1] := by kernel_rfl
theorem g3 : reach_Order_O 6000 exW [⟨7, 1, ⟨#[]⟩⟩, ⟨7, 3, ⟨#[]⟩⟩] = some [1, 3, 5] := by kernel_rfl
theorem g4 : reach_begin_O 6000 exW [⟨7, 1, ⟨#[]⟩⟩, ⟨7, 3, ⟨#[]⟩⟩] = some ⟨exW, [1, 3], [(1, ()), (3, ())], 2⟩ := by kernel_rfl
theorem live_of {N : Nat} {m : DMemory} {roots : List DValue} {l s : List Int} (h : reach_Order_O N m roots = some l) (hl : l.length ≤ 5000) (hs : sortL l = s) : reach_Live_O N m roots = some s := by
  unfold reach_Live_O
  rw [h, bs, sort_spec N l hl, bs, hs]
theorem goes_true : pantomimelaw19_goes_O 6000 = some true := by
  have l1 : reach_Live_O 6000 exM [⟨7, 1, ⟨#[]⟩⟩] = some [1, 2, 3] := live_of g1 (by decide) (sortL_eq (by decide) (by decide) (by intro x; simp; omega))
  have l2 : reach_Live_O 6000 exW [⟨7, 1, ⟨#[]⟩⟩] = some [1] := live_of g2 (by decide) (sortL_eq (by decide) (by decide) (by intro x; simp))
  have l3 : reach_Live_O 6000 exW [⟨7, 1, ⟨#[]⟩⟩, ⟨7, 3, ⟨#[]⟩⟩] = some [1, 3, 5] := live_of g3 (by decide) (sortL_eq (by decide) (by decide) (by intro x; simp))
  have l4 : reach_Strong_O 6000 exW [⟨7, 1, ⟨#[]⟩⟩, ⟨7, 3, ⟨#[]⟩⟩] = some [1, 3] := by
    unfold reach_Strong_O slices_Values_61_O
    rw [g4, bs, bs, sorted_spec 6000 (by decide) _ (by decide), bs]
    exact congrArg some (sortL_eq (by decide) (by decide) (by intro x; simp))
  have s1 : pantomimeref19_Same_O 6000 [1, 3, 2] [1, 3, 2] = some true := by kernel_rfl
  have s2 : pantomimeref19_Same_O 6000 [1, 2, 3] [1, 2, 3] = some true := by kernel_rfl
  have s3 : pantomimeref19_Same_O 6000 [1] [1] = some true := by kernel_rfl
  have s4 : pantomimeref19_Same_O 6000 [1, 3, 5] [1, 3, 5] = some true := by kernel_rfl
  have s5 : pantomimeref19_Same_O 6000 [1, 3] [1, 3] = some true := by kernel_rfl
  have o : ∀ n, pantomimelaw19_object_O 6000 n = some ⟨7, n, ⟨#[]⟩⟩ := fun _ => rfl
  have g1' := g1
  unfold exM at g1' l1
  unfold exW at l2 l3 l4
  unfold pantomimelaw19_goes_O
  simp only [o, bs, g1', l1, l2, l3, l4, s1, s2, s3, s4, s5, ct]
end Go.Proofs.YtmbaennilhdieaaGreat

/- Plain: the reference's traversal is the one of the relation. -/
namespace Go.Proofs.YtmbaennilhdieaaGreat
open Go.RowKit

/-- what the reference has discovered -/
structure Tq (m : DMemory) (all : List Int) : Prop where
  nd : all.Nodup
  has : ∀ x ∈ all, hasM m x = true
theorem Tq.len {m : DMemory} {roots : List DValue} (hs : Small m roots) {all : List Int} (h : Tq m all) : all.length ≤ 1200 := nodup_le 1200 h.nd fun x hx => ⟨by have := hasM_pos (h.has x hx); omega, by have := hasM_le hs (h.has x hx); omega⟩
theorem Tq.in64 {m : DMemory} {roots : List DValue} (hs : Small m roots) {all : List Int} (h : Tq m all) {x : Int} (hx : x ∈ all) : in64 x := by
  have h1 := hasM_pos (h.has x hx)
  have h2 := hasM_le hs (h.has x hx)
  unfold Go.Proofs.YtmbaennilhdieaaGreat.in64; omega
theorem Tq.lay {m : DMemory} {all : List Int} (h : Tq m all) (l : List Int) : Tq m (layL (hasM m) all l) := ⟨layL_nodup l h.nd, fun x hx => (layL_new hx).elim (h.has x) (·.1)⟩
theorem rlay_fun (N : Nat) {m : DMemory} {roots : List DValue} (hN : 5000 < N) (hs : Small m roots) (l : List Int) (hl : l.length ≤ 2000) (h64 : ∀ x ∈ l, in64 x) {all : List Int} (ht : Tq m all) : pantomimeref19_lay_O N m all l = some (layL (hasM m) all l) := by
  apply Sat.eq
  unfold pantomimeref19_lay_O
  refine loop_inv (fun k i (s : List Int) => pantomimeref19_lay_l8 N l m k s (i : Int)) l.length (fun i s => Tq m s ∧ s = layL (hasM m) all (l.take i)) _ ?_ ?_ N 0 all (by omega) (by omega) ⟨ht, rfl⟩
  · rintro k i s hi ⟨h0, h1⟩ go
    show Sat (pantomimeref19_lay_l8 N l m (k + 1) s (i : Int)) _
    have hx64 := h64 l[i] (List.getElem_mem _)
    have hsl := h0.len hs
    have hnext : layL (hasM m) all (l.take (i + 1)) = (bif hasM m l[i] && !decide (l[i] ∈ s) then s ++ [l[i]] else s) := by
      rw [take_succ_get hi, layL_two, ← h1]; rfl
    have hT : Tq m (layL (hasM m) all (l.take (i + 1))) := ht.lay _
    rw [pantomimeref19_lay_l8_s, lt_t (by omega), ct]
    simp only [getE_n hi, bs, has_ref N m _ hx64, in19 N hN s (by omega) l[i]]
    unfold pantomimeref19_lay_j12
    cases hh : hasM m l[i]
    · simp only [cf, bs]
      rw [r64 (by omega) (by omega)]
      exact go s ⟨h0, by rw [hnext, hh]; rfl⟩
    · simp only [ct, bs]
      by_cases hm : l[i] ∈ s
      · rw [decide_eq_true hm]
        simp only [nt, cf]
        rw [r64 (by omega) (by omega)]
        exact go s ⟨h0, by rw [hnext, hh, decide_eq_true hm]; rfl⟩
      · have e : layL (hasM m) all (l.take (i + 1)) = s ++ [l[i]] := by rw [hnext, hh, decide_eq_false hm]; rfl
        rw [decide_eq_false hm]
        simp only [nf, ct]
        rw [rF (by simp; omega), r64 (by omega) (by omega)]
        exact go (s ++ [l[i]]) ⟨e ▸ hT, e.symm⟩
  · rintro k s ⟨h0, h1⟩
    show Sat (pantomimeref19_lay_l8 N l m (k + 1) s _) _
    rw [pantomimeref19_lay_l8_s, lt_f (by omega), cf]
    exact sat_some (by simpa using h1)
theorem raddr_fun (N : Nat) (hN : 5000 < N) (l : List DValue) (hl : l.length ≤ 2000) : pantomimeref19_addresses_O N l = some (addrL l) := by
  apply Sat.eq
  unfold pantomimeref19_addresses_O
  refine loop_inv (fun k i (s : List Int) => pantomimeref19_addresses_l5 N l k s (i : Int)) l.length (fun i s => s = addrL (l.take i)) _ ?_ ?_ N 0 [] (by omega) (by omega) rfl
  · rintro k i s hi h1 go
    show Sat (pantomimeref19_addresses_l5 N l (k + 1) s (i : Int)) _
    have hsl : s.length ≤ 2000 := by
      rw [h1]; unfold addrL; rw [List.length_map]
      exact Nat.le_trans (List.length_filter_le _ _) (by rw [List.length_take]; omega)
    have hnext : addrL (l.take (i + 1)) = s ++ addrL [l[i]] := by rw [take_succ_get hi, addrL_app, h1]
    rw [pantomimeref19_addresses_l5_s, lt_t (by omega), ct]
    simp only [getE_n hi, bs, kind_has]
    unfold pantomimeref19_addresses_j9
    cases hb : hasB l[i]
    · simp only [cf]
      rw [r64 (by omega) (by omega)]
      exact go s (by rw [hnext]; simp [addrL, hb])
    · simp only [ct]
      rw [rF (by simp; omega), r64 (by omega) (by omega)]
      exact go (s ++ [l[i].N]) (by rw [hnext]; simp [addrL, hb])
  · rintro k s h1
    show Sat (pantomimeref19_addresses_l5 N l (k + 1) s _) _
    rw [pantomimeref19_addresses_l5_s, lt_f (by omega), cf]
    exact sat_some (by simpa using h1)
theorem rthrough_fun (N : Nat) (hN : 5000 < N) {m : DMemory} {roots : List DValue} (hs : Small m roots) (hw : W64 m) {all : List Int} (ht : Tq m all) (k : Nat) (hk : k ≤ all.length) :
    Sat (pantomimeref19_through_O N m all (k : Int)) fun r => Tq m r ∧ Thr (grM N m) all k r := by
  unfold pantomimeref19_through_O
  refine loop_dec (fun f (s : List Int × Nat) => pantomimeref19_through_l7 N m f s.1 (s.2 : Int)) (fun s => 1300 - s.2) (fun s => Tq m s.1 ∧ s.2 ≤ s.1.length ∧ ∀ r, Thr (grM N m) s.1 s.2 r → Thr (grM N m) all k r) _ ?_ N (all, k) (by show 1300 - k < N; omega) ⟨ht, hk, fun _ h => h⟩
  rintro f ⟨al, j⟩ ⟨h1, h3, h4⟩ go
  show Sat (pantomimeref19_through_l7 N m (f + 1) al (j : Int)) _
  simp only at h1 h3 h4
  have hlen := h1.len hs
  rw [pantomimeref19_through_l7_s]
  by_cases hj : j < al.length
  · have hx := List.getElem_mem hj
    have hsm := hs.at_ al[j]
    obtain ⟨hl1, hl2⟩ := leads_ok hs hw al[j]
    rw [lt_t (by omega), ct, getE_n hj, bs, at_ref N m _ (h1.in64 hs hx), bs, leads_ref N (by omega) _ (by omega) (by omega), bs, rlay_fun N hN hs _ hl1 hl2 h1, bs, r64 (by omega) (by omega)]
    have hge : al.length ≤ (layL (hasM m) al (leadsL (atM m al[j]))).length := by
      obtain ⟨t, e, -⟩ := layL_app (hasM m) al (leadsL (atM m al[j]))
      rw [e, List.length_append]; omega
    exact go (layL (hasM m) al (leadsL (atM m al[j])), j + 1) (by show 1300 - (j + 1) < 1300 - j; omega) ⟨h1.lay _, by show j + 1 ≤ (layL (hasM m) al (leadsL (atM m al[j]))).length; omega, fun r hr => h4 r (.step (List.getElem?_eq_getElem hj) hr)⟩
  · have : j = al.length := by omega
    subst this
    rw [lt_f (by omega), cf]
    exact sat_some ⟨h1, h4 _ (.done (Nat.le_refl _))⟩
theorem rorder_fun (N : Nat) (hN : 5000 < N) {m : DMemory} {roots : List DValue} (hs : Small m roots) (hw : W64 m) (hr : ∀ v ∈ roots, in64 v.N) :
    ∃ b all, IsOrder (grM N m) (addrL roots) b all ∧ pantomimeref19_Order_O N m roots = some all ∧ ((pantomimeref19_addresses_O N roots).bind fun y5 => (pantomimeref19_lay_O N m ([] : List Int) y5).bind fun y8 => pantomimeref19_through_O N m y8 0) = some b := by
  have hrl := hs.roots
  have ha := raddr_fun N hN roots (by omega)
  have h64 : ∀ x ∈ addrL roots, in64 x := fun x hx => by
    obtain ⟨v, h1, -, rfl⟩ := addrL_mem.1 hx
    exact hr v h1
  have hal : (addrL roots).length ≤ 2000 := by
    unfold addrL; rw [List.length_map]; exact Nat.le_trans (List.length_filter_le _ _) (by omega)
  have hT0 : Tq m [] := ⟨List.nodup_nil, by simp⟩
  have hlay := rlay_fun N hN hs (addrL roots) hal h64 hT0
  obtain ⟨b, b0, b1, b2⟩ := rthrough_fun N hN hs hw (hT0.lay (addrL roots)) 0 (Nat.zero_le _)
  have b0' : pantomimeref19_through_O N m (layL (hasM m) [] (addrL roots)) 0 = some b := b0
  have key : Sat (pantomimeref19_Order_O N m roots) fun all => Ord (grM N m) b all := by
    unfold pantomimeref19_Order_O
    rw [ha, bs, hlay, bs, b0', bs]
    refine loop_dec (fun f (s : List Int) => pantomimeref19_Order_l12 N m f s) (fun s => 1300 - s.length) (fun s => Tq m s ∧ ∀ r, Ord (grM N m) s r → Ord (grM N m) b r) _ ?_ N b (by show 1300 - b.length < N; omega) ⟨b1, fun _ h => h⟩
    rintro f al ⟨h4, h5⟩ go
    show Sat (pantomimeref19_Order_l12 N m (f + 1) al) _
    have hlen := h4.len hs
    rw [pantomimeref19_Order_l12_s]
    refine loop_inv (fun k i (s : List Int) => pantomimeref19_Order_l16 N (pantomimeref19_Order_l12 N m f) al m k s (i : Int)) al.length (fun i s => Tq m s ∧ (∃ t, s = al ++ t) ∧ s = passL (grM N m) al (al.take i)) _ ?_ ?_ N 0 al (by omega) (by omega) ⟨h4, ⟨[], by simp⟩, rfl⟩
    · rintro k i s hi ⟨h0, ⟨t, h1⟩, h2⟩ go2
      show Sat (pantomimeref19_Order_l16 N (pantomimeref19_Order_l12 N m f) al m (k + 1) s (i : Int)) _
      have hsl := h0.len hs
      have hg : getE s (i : Int) = some al[i] := by
        rw [getE_nat, h1, List.getElem?_append_left hi, List.getElem?_eq_getElem hi]
      have hx := List.getElem_mem hi
      have hsm := hs.at_ al[i]
      obtain ⟨hl1, hl2⟩ := opens_ok N hs hw al[i] s
      have hnext : passL (grM N m) al (al.take (i + 1)) = layL (hasM m) s (opensL N (atM m al[i]) s) := by
        rw [take_succ_get hi, passL_two, ← h2]; rfl
      rw [pantomimeref19_Order_l16_s, lt_t (by omega), ct, hg, bs, at_ref N m _ (h4.in64 hs hx), bs, opens_ref N hN s (by omega) _ (by omega) (by omega), bs, rlay_fun N hN hs _ hl1 hl2 h0, bs, r64 (by omega) (by omega)]
      obtain ⟨t', e', -⟩ := layL_app (hasM m) s (opensL N (atM m al[i]) s)
      exact go2 _ ⟨h0.lay _, ⟨t ++ t', by rw [e', h1, List.append_assoc]⟩, hnext.symm⟩
    · rintro k s ⟨h0, ⟨t, h1⟩, h2⟩
      show Sat (pantomimeref19_Order_l16 N (pantomimeref19_Order_l12 N m f) al m (k + 1) s _) _
      have hsl := h0.len hs
      simp only [List.take_length] at h2
      rw [pantomimeref19_Order_l16_s, lt_f (by omega), cf]
      unfold pantomimeref19_Order_j14
      refine sat_dec (fun he => ?_) fun hne => ?_
      · have h6 : t = [] := List.eq_nil_of_length_eq_zero (by rw [h1, List.length_append] at he; omega)
        have h7 : s = al := by rw [h1, h6, List.append_nil]
        exact sat_some (by rw [h7] at h2 ⊢; exact h5 _ (.done h2.symm))
      · have hle : al.length ≤ s.length := by rw [h1, List.length_append]; omega
        refine Sat.bind (rthrough_fun N hN hs hw h0 al.length hle) fun r ⟨r1, r2⟩ => ?_
        obtain ⟨t3, e3⟩ := r2.app
        have hl3 := r1.len hs
        refine go r ?_ ⟨r1, fun r' hr' => h5 r' (.step ?_ (by rw [← h2]; exact r2) hr')⟩
        · show 1300 - r.length < 1300 - al.length
          have : s.length ≤ r.length := by rw [e3, List.length_append]; omega
          omega
        · rw [← h2]; intro e; rw [e] at hne; omega
  obtain ⟨all, k1, k2⟩ := key
  exact ⟨b, all, ⟨b2, k2⟩, k1, by rw [ha, bs, hlay, bs]; exact b0'⟩
end Go.Proofs.YtmbaennilhdieaaGreat

/- Plain: the reference's sorted copies. -/
namespace Go.Proofs.YtmbaennilhdieaaGreat
open Go.RowKit

theorem swap_perm : ∀ {s : List Int} {k : Nat} (h : k + 1 < s.length), ((s.set (k + 1) (s[k]'(by omega))).set k s[k + 1]).Perm s
  | a :: b :: r, 0, _ => List.Perm.swap a b r
  | a :: r, k + 1, h => by
    have ih := swap_perm (s := r) (k := k) (by simpa using h)
    simp only [List.set_cons_succ, List.getElem_cons_succ]
    exact ih.cons a
/-- sorted up to i, but for the place k -/
def Ins (s : List Int) (i k : Nat) : Prop := ∀ a b : Nat, a < b → b ≤ i → b ≠ k → s.getD a 0 ≤ s.getD b 0
theorem getD_set (s : List Int) (i j : Nat) (x : Int) (hi : i < s.length) : (s.set i x).getD j 0 = if j = i then x else s.getD j 0 := by
  by_cases e : j = i
  · subst e; simp [List.getD, hi]
  · rw [if_neg e]
    simp only [List.getD]
    rw [List.getElem?_set_ne (fun h => e h.symm)]
theorem getD_at (s : List Int) (i : Nat) (hi : i < s.length) : s.getD i 0 = s[i] := by simp [List.getD, hi]
theorem rising_fun (N : Nat) (hN : 5000 < N) (l : List Int) (hl : l.length ≤ 2000) (hn : l.Nodup) : pantomimeref19_rising_O N l = some (sortL l) := by
  apply Sat.eq
  unfold pantomimeref19_rising_O
  rw [rF (by simp; omega), List.nil_append]
  have fin : ∀ s : List Int, s.Perm l → Ins s (l.length - 1) l.length → s = sortL l := fun s hp hi => by
    have hlen := hp.length_eq
    have hnd : s.Nodup := hp.nodup_iff.2 hn
    refine (sortL_eq hn (List.pairwise_iff_getElem.2 fun a b ha hb hab => ?_) fun x => (hp.mem_iff).symm).symm
    have h1 := hi a b hab (by omega) (by omega)
    rw [getD_at s a ha, getD_at s b hb] at h1
    have h2 := List.pairwise_iff_getElem.1 (List.nodup_iff_pairwise_ne.1 hnd) a b ha hb hab
    omega
  by_cases h0 : l.length = 0
  · have e : l = [] := List.eq_nil_of_length_eq_zero h0
    subst e
    obtain ⟨n, rfl⟩ : ∃ n, N = n + 1 := ⟨N - 1, by omega⟩
    rw [pantomimeref19_rising_l7_s, lt_f (by simp), cf]
    exact sat_some (by unfold sortL; simp)
  refine loop_inv (fun k i (s : List Int) => pantomimeref19_rising_l7 N k s (i : Int)) l.length (fun i s => s.Perm l ∧ Ins s (i - 1) l.length) _ ?_ ?_ N 1 l (by omega) (by omega) ⟨List.Perm.refl _, fun a b h1 h2 => absurd h2 (by omega)⟩
  · rintro f i s hi ⟨h1, h2⟩ go
    show Sat (pantomimeref19_rising_l7 N (f + 1) s (i : Int)) _
    have hlen := h1.length_eq
    rw [pantomimeref19_rising_l7_s, hlen, lt_t (by omega), ct]
    have hi0 : i ≤ l.length := by omega
    refine loop_dec (fun k (st : List Int × Nat) => pantomimeref19_rising_l13 N (pantomimeref19_rising_l7 N f) (i : Int) k st.1 (st.2 : Int)) (fun st => st.2) (fun st => st.1.Perm l ∧ st.2 ≤ i ∧ Ins st.1 i st.2) _ ?_ N (s, i) (by show i < N; omega) ⟨h1, Nat.le_refl _, fun a b q1 q2 q3 => h2 a b q1 (by show b ≤ i - 1; simp only at q3; omega) (by omega)⟩
    rintro k ⟨t, j⟩ ⟨g1, g2, g3⟩ go2
    simp only at g1 g2 g3
    show Sat (pantomimeref19_rising_l13 N (pantomimeref19_rising_l7 N f) (i : Int) (k + 1) t (j : Int)) _
    have hlt := g1.length_eq
    have stop : (j = 0 ∨ t.getD (j - 1) 0 ≤ t.getD j 0) → Sat (pantomimeref19_rising_j11 N (pantomimeref19_rising_l7 N f) (i : Int) t) (· = sortL l) := fun hst => by
      unfold pantomimeref19_rising_j11
      rw [r64 (by omega) (by omega)]
      refine go t ⟨g1, fun a b q1 q2 q3 => ?_⟩
      have q2' : b ≤ i := by omega
      by_cases e : b = j
      · subst e
        rcases hst with h | h
        · omega
        · by_cases e2 : a = b - 1
          · subst e2; exact h
          · have := g3 a (b - 1) (by omega) (by omega) (by omega); omega
      · exact g3 a b q1 q2' e
    rw [pantomimeref19_rising_l13_s]
    by_cases hj : 0 < j
    · have hp : getE t ((j : Int) - 1) = some (t[j - 1]'(by omega)) := by
        have := getE_n (xs := t) (i := j - 1) (by omega)
        rw [show (((j - 1 : Nat)) : Int) = (j : Int) - 1 by omega] at this
        exact this
      have hq : getE t (j : Int) = some (t[j]'(by omega)) := getE_n (by omega)
      rw [lt_t (by omega), ct, r64 (by omega) (by omega), hp, bs, hq, bs, bs]
      by_cases hc : t[j]'(by omega) < t[j - 1]'(by omega)
      · rw [lt_t hc, ct, bs, r64 (a := (j : Int) - 1) (by omega) (by omega), bs, bs, r64 (a := (j : Int) - 1) (by omega) (by omega)]
        have hs2 : getE (List.set t (j : Int).toNat (t[j - 1]'(by omega))) ((j : Int) - 1) = some ((List.set t (j : Int).toNat (t[j - 1]'(by omega)))[j - 1]'(by simp; omega)) := by
          have := getE_n (xs := List.set t (j : Int).toNat (t[j - 1]'(by omega))) (i := j - 1) (by simp; omega)
          rw [show (((j - 1 : Nat)) : Int) = (j : Int) - 1 by omega] at this
          exact this
        rw [hs2, bs, r64 (a := (j : Int) - 1) (by omega) (by omega), Int.toNat_natCast, show ((j : Int) - 1).toNat = j - 1 by omega, show (j : Int) - 1 = ((j - 1 : Nat) : Int) by omega]
        obtain ⟨q, rfl⟩ : ∃ q, j = q + 1 := ⟨j - 1, by omega⟩
        simp only [Nat.add_sub_cancel] at *
        refine go2 ((t.set (q + 1) (t[q]'(by omega))).set q (t[q + 1]'(by omega)), q) (by show q < q + 1; omega) ⟨(swap_perm (by omega)).trans g1, by show q ≤ i; omega, fun a b q1 q2 q3 => ?_⟩
        have q3' : b ≠ q := q3
        have hqa := getD_at t q (by omega)
        have hqb := getD_at t (q + 1) (by omega)
        show ((t.set (q + 1) (t[q]'(by omega))).set q (t[q + 1]'(by omega))).getD a 0 ≤ ((t.set (q + 1) (t[q]'(by omega))).set q (t[q + 1]'(by omega))).getD b 0
        rw [getD_set _ q _ _ (by simp; omega), getD_set _ q _ _ (by simp; omega), getD_set t (q + 1) _ _ (by omega), getD_set t (q + 1) _ _ (by omega), if_neg q3']
        by_cases b1 : b = q + 1
        · rw [if_pos b1]
          by_cases a1 : a = q
          · rw [if_pos a1]; omega
          · rw [if_neg a1, if_neg (by omega), ← hqa]
            exact g3 a q (by omega) (by omega) (by omega)
        · rw [if_neg b1]
          by_cases a1 : a = q
          · rw [if_pos a1, ← hqb]; exact g3 (q + 1) b (by omega) q2 b1
          · rw [if_neg a1]
            by_cases a2 : a = q + 1
            · rw [if_pos a2, ← hqa]; exact g3 q b (by omega) q2 b1
            · rw [if_neg a2]; exact g3 a b q1 q2 b1
      · rw [lt_f (by omega), cf]
        refine stop (.inr ?_)
        rw [getD_at t (j - 1) (by omega), getD_at t j (by omega)]; omega
    · rw [lt_f (by omega), cf, bs, cf]
      exact stop (.inl (by omega))
  · rintro f s ⟨h1, h2⟩
    show Sat (pantomimeref19_rising_l7 N (f + 1) s _) _
    rw [pantomimeref19_rising_l7_s, h1.length_eq, lt_f (by omega), cf]
    unfold pantomimeref19_rising_j5
    exact sat_some (fin s h1 h2)
end Go.Proofs.YtmbaennilhdieaaGreat

/- Plain: every cell has an answer whether it is valid; what a valid registry holds. -/
namespace Go.Proofs.YtmbaennilhdieaaGreat
open Go.RowKit

abbrev Tot {ρ : Type} (m : Option ρ) : Prop := Sat m fun _ => True
theorem tot_some {ρ : Type} (x : ρ) : Tot (some x) := sat_some trivial
theorem tot_bif {ρ : Type} {b : Bool} {x y : Option ρ} (hx : b = true → Tot x) (hy : b = false → Tot y) : Tot (bif b then x else y) := sat_cond hx hy
theorem num_tot (N : Nat) (v : DValue) (a b : Int) : Tot (pantomimeref15_num_O N v a b) := by
  unfold pantomimeref15_num_O
  refine Sat.bind (P := fun _ => True) (tot_bif (fun _ => tot_some _) fun _ => tot_some _) fun x _ => Sat.bind (P := fun _ => True) (tot_bif (fun _ => tot_some _) fun _ => tot_some _) fun y _ => tot_some _
theorem none_tot (N : Nat) (v : DValue) (a : Int) : Tot (pantomimeref15_none_O N v a) := by
  unfold pantomimeref15_none_O
  exact Sat.bind (P := fun _ => True) (tot_bif (fun _ => tot_some _) fun _ => tot_some _) fun x _ => tot_some _
/-- a && b, where b needs a -/
theorem tot_and {c : Bool} {m : Option Bool} (h : c = true → Tot m) : Tot (bif c then m else some false) := tot_bif h fun _ => tot_some _
theorem tot_at {l : List DValue} {i : Nat} {f : DValue → Option Bool} (hi : i < l.length) (h : ∀ v, Tot (f v)) : Tot ((getE l (i : Int)).bind f) := by
  rw [getE_n hi, bs]; exact h _
theorem tot_bind {m : Option Bool} {f : Bool → Option Bool} (h : Tot m) (k : ∀ b, Tot (f b)) : Tot (m.bind f) := Sat.bind h fun b _ => k b
theorem tot_bindP {m : Option Bool} {p : Prop} {f : Bool → Option Bool} (h : Sat m fun b => b = true → p) (k : ∀ b, (b = true → p) → Tot (f b)) : Tot (m.bind f) := Sat.bind h k
theorem slots_tot (N : Nat) (c : DCell) : Tot (pantomimeref15_slots_O N c) := by
  unfold pantomimeref15_slots_O
  have hp : Tot (pantomimeref15_Props_O N c.Kind) := by
    unfold pantomimeref15_Props_O
    iterate 6 refine tot_bind (tot_bif (fun _ => tot_some _) fun _ => tot_some _) fun _ => ?_
    exact tot_some _
  refine tot_bind hp fun y => tot_bind (tot_bif (fun _ => tot_some _) fun _ => tot_bind (tot_bif (fun _ => tot_some _) fun _ => tot_some _) fun _ => tot_some _) fun b => ?_
  refine tot_bif (fun _ => ?_) fun _ => ?_
  · refine tot_bindP (p := 0 < c.Slots.length) (sat_dec (fun h => sat_some fun _ => by omega) fun _ => sat_some fun h => by cases h) fun b hb => tot_bind (tot_and fun h => ?_) fun _ => tot_some _
    have h0 := hb h
    refine tot_at (i := 0) h0 fun v => tot_bind (tot_bif (fun _ => tot_some _) fun _ => tot_at (i := 0) h0 fun _ => tot_some _) fun _ => tot_some _
  · refine tot_bif (fun _ => tot_some _) fun _ => tot_bind (tot_bif (fun _ => tot_some _) fun _ => tot_some _) fun _ => tot_bif (fun _ => tot_some _) fun _ => sat_cond (fun _ => ?_) fun _ => tot_some _
    refine tot_bindP (p := 1 < c.Slots.length) (sat_dec (fun h => ?_) fun _ => sat_some fun h => by cases h) fun b hb => tot_bind (tot_and fun h => ?_) fun _ => tot_some _
    · rw [show ((0 : Int)) = ((0 : Nat) : Int) from rfl, getE_n (by omega), bs]
      obtain ⟨x, hx, -⟩ := none_tot N c.Slots[0] 7
      rw [hx, bs]; exact sat_some fun _ => by omega
    · refine tot_at (i := 1) (hb h) fun v => tot_bind (none_tot N v 7) fun _ => tot_some _
theorem at_tot {l : List DValue} {i : Nat} {m : DValue → Option Bool} (hi : i < l.length) (h : ∀ v, Tot (m v)) {p : Prop} (hp : p) : Sat ((getE l (i : Int)).bind fun x => (m x).bind fun y => some y) fun b => b = true → p := by
  rw [getE_n hi, bs]
  obtain ⟨x, hx, -⟩ := h l[i]
  rw [hx, bs]; exact sat_some fun _ => hp
/-- what is known of More where it is valid -/
def MoreOk (c : DCell) : Prop := (c.Kind = 8 → c.More.length % 2 = 0) ∧ (c.Kind = 10 → 1 ≤ c.More.length ∧ (c.More.length - 1) % 4 = 0)
theorem more_tot (N : Nat) (hN : 2000 < N) (c : DCell) (hc : c.More.length ≤ 1000) : Sat (pantomimeref15_more_O N c) fun b => b = true → MoreOk c := by
  have j6 : ∀ p, (p = true → c.Kind = 1 ∨ c.Kind = 5) → Sat (pantomimeref15_more_j6 N c p) fun b => b = true → MoreOk c := by
    intro p hp
    have other : ∀ {m : Option Bool}, c.Kind ≠ 8 → c.Kind ≠ 10 → Tot m → Sat m fun b => b = true → MoreOk c := fun h8 h10 h => h.mono fun _ _ _ => ⟨fun e => absurd e h8, fun e => absurd e h10⟩
    unfold pantomimeref15_more_j6
    refine sat_cond (fun h => other (by rcases hp h with e | e <;> omega) (by rcases hp h with e | e <;> omega) (tot_some _)) fun _ => ?_
    refine sat_dec (fun hk => other (by omega) (by omega) ?_) fun _ => ?_
    · refine tot_bindP (p := 1 < c.More.length) (sat_dec (fun h => at_tot (i := 0) (by omega) (fun v => num_tot N v _ _) (by omega)) fun _ => sat_some fun h => by cases h) fun b hb => tot_bind (tot_and fun h => tot_at (i := 1) (hb h) fun v => tot_bind (none_tot N v 9) fun _ => tot_some _) fun _ => tot_some _
    refine sat_dec (fun hk => other (by omega) (by omega) ?_) fun _ => ?_
    · refine tot_bindP (p := 0 < c.More.length) (sat_dec (fun h => sat_some fun _ => by omega) fun _ => sat_some fun h => by cases h) fun b hb => tot_bind (tot_and fun h => tot_at (i := 0) (hb h) fun v => tot_bind (none_tot N v 9) fun _ => tot_some _) fun _ => tot_some _
    refine sat_dec (fun hk => other (by omega) (by omega) ?_) fun _ => ?_
    · refine tot_bindP (p := 1 < c.More.length) (sat_dec (fun h => at_tot (i := 0) (by omega) (fun v => num_tot N v _ _) (by omega)) fun _ => sat_some fun h => by cases h) fun b hb => tot_bind (tot_and fun h => tot_at (i := 1) (hb h) fun v => tot_bind (none_tot N v 9) fun _ => tot_some _) fun _ => tot_some _
    refine sat_dec (fun hk => other (by omega) (by omega) ?_) fun _ => ?_
    · refine tot_bindP (p := 3 < c.More.length) (sat_dec (fun h => at_tot (i := 2) (by omega) (fun v => num_tot N v _ _) (by omega)) fun _ => sat_some fun h => by cases h) fun b hb => tot_bind (tot_and fun h => tot_at (i := 3) (hb h) fun v => tot_bind (num_tot N v _ _) fun _ => tot_some _) fun _ => tot_some _
    refine sat_dec (fun hk => ?_) fun hk8 => ?_
    · obtain ⟨b, -, h2, h3⟩ := entries_eq N hN 2 (.inl rfl) c.More hc
      have h2' : pantomimeref15_entries_O N c.More 2 = some b := h2
      rw [h2', bs]
      exact sat_some fun hb => ⟨fun _ => h3 hb, fun e => absurd e (by omega)⟩
    refine sat_dec (fun hk => ?_) fun hk10 => ?_
    · refine Sat.bind (P := fun b => b = true → 1 ≤ c.More.length) (sat_dec (fun h => ?_) fun _ => sat_some fun h => by cases h) fun b hb => ?_
      · rw [show ((0 : Int)) = ((0 : Nat) : Int) from rfl, getE_n (by omega), bs]; exact sat_some fun _ => by omega
      · refine Sat.bind (P := fun b => b = true → MoreOk c) (sat_cond (fun h => ?_) fun _ => sat_some fun h => by cases h) fun b' hb' => sat_some hb'
        have h1 := hb h
        rw [req_pos ⟨by omega, by show (1 : Int).toNat ≤ _; exact h1, Nat.le_refl _⟩]
        have hl : ((c.More.drop ((1 : Int).toNat)).take (c.More.length - (1 : Int).toNat)).length = c.More.length - 1 := by
          rw [List.length_take, List.length_drop]; show min (c.More.length - 1) (c.More.length - 1) = _; omega
        obtain ⟨b2, -, h2, h3⟩ := entries_eq N hN 4 (.inr rfl) ((c.More.drop ((1 : Int).toNat)).take (c.More.length - (1 : Int).toNat)) (by rw [hl]; omega)
        have h2' : pantomimeref15_entries_O N ((c.More.drop ((1 : Int).toNat)).take (c.More.length - (1 : Int).toNat)) 4 = some b2 := h2
        rw [h2', bs]
        exact sat_some fun hb2 => ⟨fun e => absurd e (by omega), fun _ => ⟨h1, by have := h3 hb2; rw [hl] at this; exact this⟩⟩
    refine sat_dec (fun hk => other (by omega) (by omega) ?_) fun _ => other hk8 hk10 (tot_some _)
    refine tot_bind ?_ fun _ => tot_some _
    exact tot_bif (fun h => tot_at (i := 0) (by have := of_decide_eq_true h; omega) fun v => tot_bind (num_tot N v _ _) fun _ => tot_some _) fun _ => tot_some _
  unfold pantomimeref15_more_O
  refine sat_dec (fun _ => sat_some fun h => by cases h) fun _ => sat_dec (fun hk => sat_some fun _ => ⟨fun e => absurd e (by omega), fun e => absurd e (by omega)⟩) fun _ => sat_dec (fun hk => j6 _ fun _ => .inl hk) fun _ => j6 _ fun h => .inr (of_decide_eq_true h)
theorem right_tot (N : Nat) (hN : 2000 < N) (c : DCell) (hS : c.Slots.length ≤ 1000) (hc : c.More.length ≤ 1000) : Sat (pantomimeref15_Right_O N c) fun b => b = true → MoreOk c := by
  obtain ⟨b1, g1, -⟩ := right_slots N hN c hS hc N 0 (by omega) (by omega)
  have g1' : pantomimeref15_Right_l12 N c N 0 = (bif b1 then pantomimeref15_Right_j19 N c else some false) := g1
  have hj : Sat (pantomimeref15_Right_j19 N c) fun b => b = true → MoreOk c := by
    unfold pantomimeref15_Right_j19
    refine Sat.bind (slots_tot N c) fun y _ => ?_
    refine Sat.bind (P := fun b => b = true → MoreOk c) (sat_cond (fun _ => Sat.bind (more_tot N hN c hc) fun _ h => sat_some h) fun _ => sat_some fun h => by cases h) fun _ h => sat_some h
  unfold pantomimeref15_Right_O
  rw [g1']
  iterate 6 refine Sat.bind (P := fun _ => True) (tot_bif (fun _ => tot_some _) fun _ => tot_some _) fun _ _ => ?_
  refine sat_cond (fun _ => sat_some fun h => by cases h) fun _ => sat_cond (fun _ => hj) fun _ => sat_some fun h => by cases h
end Go.Proofs.YtmbaennilhdieaaGreat

/- Plain tools for translated loops: all, folds, equal lists. Over any program. -/
namespace Go.Proofs.YtmbaennilhdieaaGreat
open Go.RowKit

/-- a loop that asks of each element, then goes on with k -/
theorem loop_allk {α ρ : Type} (L : Nat → Int → Option ρ) (l : List α) (p : α → Bool) (bad k : Option ρ)
    (step : ∀ m (i : Nat) (h : i < l.length), L (m + 1) (i : Int) = bif p l[i] then L m ((i : Int) + 1) else bad)
    (fin : ∀ m, L (m + 1) (l.length : Int) = k) (N : Nat) (hN : l.length < N) : L N 0 = bif l.all p then k else bad := by
  have key : ∀ m i : Nat, l.length < m + i → i ≤ l.length → L m (i : Int) = bif (l.drop i).all p then k else bad := by
    intro m
    induction m with
    | zero => intro i h1 h2; omega
    | succ m ih =>
      intro i h1 h2
      by_cases hi : i < l.length
      · rw [step m i hi, List.drop_eq_getElem_cons hi, List.all_cons]
        have h3 := ih (i + 1) (by omega) hi
        rw [show (((i + 1 : Nat)) : Int) = (i : Int) + 1 by omega] at h3
        rw [h3]
        cases p l[i] <;> rfl
      · have e : i = l.length := by omega
        subst e
        rw [fin, List.drop_length]; rfl
  have := key N 0 (by omega) (by omega)
  simpa using this
theorem loop_all {α : Type} (L : Nat → Int → Option Bool) (l : List α) (p : α → Bool)
    (step : ∀ m (i : Nat) (h : i < l.length), L (m + 1) (i : Int) = bif p l[i] then L m ((i : Int) + 1) else some false)
    (fin : ∀ m, L (m + 1) (l.length : Int) = some true) (N : Nat) (hN : l.length < N) : L N 0 = some (l.all p) := by
  rw [loop_allk L l p _ _ step fin N hN]; cases l.all p <;> rfl
/-- a loop that compares two lists -/
theorem loop_eqk {α ρ : Type} [DecidableEq α] (L : Nat → Int → Option ρ) (a b : List α) (bad k : Option ρ) (hl : a.length = b.length)
    (step : ∀ m (i : Nat) (h : i < a.length) (h' : i < b.length), L (m + 1) (i : Int) = bif decide (a[i] = b[i]) then L m ((i : Int) + 1) else bad)
    (fin : ∀ m, L (m + 1) (a.length : Int) = k) (N : Nat) (hN : a.length < N) : L N 0 = bif decide (a = b) then k else bad := by
  have key : ∀ m i : Nat, a.length < m + i → i ≤ a.length → L m (i : Int) = bif decide (a.drop i = b.drop i) then k else bad := by
    intro m
    induction m with
    | zero => intro i h1 h2; omega
    | succ m ih =>
      intro i h1 h2
      by_cases hi : i < a.length
      · have hi' : i < b.length := by omega
        rw [step m i hi hi', List.drop_eq_getElem_cons hi, List.drop_eq_getElem_cons hi']
        have h3 := ih (i + 1) (by omega) hi
        rw [show (((i + 1 : Nat)) : Int) = (i : Int) + 1 by omega] at h3
        rw [h3]
        by_cases e : a[i] = b[i]
        · rw [decide_eq_true e, cond_true, e]
          by_cases e2 : a.drop (i + 1) = b.drop (i + 1)
          · rw [decide_eq_true e2, e2, decide_eq_true rfl]
          · rw [decide_eq_false e2, decide_eq_false (fun h => e2 (List.cons.inj h).2)]
        · rw [decide_eq_false e, decide_eq_false (fun h => e (List.cons.inj h).1)]; rfl
      · have e : i = a.length := by omega
        subst e
        rw [fin, List.drop_length, hl, List.drop_length, decide_eq_true rfl]; rfl
  have := key N 0 (by omega) (by omega)
  simpa using this
/-- equal lists, with the lengths compared first -/
theorem eq_loop {α : Type} [DecidableEq α] (L : Nat → Int → Option Bool) (a b : List α)
    (step : a.length = b.length → ∀ m (i : Nat) (h : i < a.length) (h' : i < b.length), L (m + 1) (i : Int) = bif decide (a[i] = b[i]) then L m ((i : Int) + 1) else some false)
    (fin : ∀ m, L (m + 1) (a.length : Int) = some true) (N : Nat) (hN : a.length < N) : (bif !decide ((a.length : Int) = (b.length : Int)) then some false else L N 0) = some (decide (a = b)) := by
  by_cases hl : a.length = b.length
  · rw [decide_eq_true (p := ((a.length : Int) = (b.length : Int))) (by omega), nt, cf, loop_eqk L a b (some false) (some true) hl (step hl) fin N hN]
    cases decide (a = b) <;> rfl
  · rw [decide_eq_false (p := ((a.length : Int) = (b.length : Int))) (by omega), nf, ct, decide_eq_false (fun e => hl (by rw [e]))]
theorem all_map {α β : Type} (f : α → β) (p : β → Bool) (l : List α) : (l.map f).all p = l.all fun x => p (f x) := by rw [List.all_map]; rfl
theorem all_filter {α : Type} (q p : α → Bool) : ∀ l : List α, (l.filter q).all p = l.all fun x => !q x || p x
  | [] => rfl
  | x :: l => by
    rw [List.filter_cons, List.all_cons, ← all_filter q p l]
    cases h : q x <;> simp
/-! maps as lists -/
def upR {α β : Type} [DecidableEq α] (a : α) (b : β) : List (α × β) → List (α × β)
  | [] => [(a, b)]
  | p :: l => if p.1 = a then (a, b) :: l else p :: upR a b l
end Go.Proofs.YtmbaennilhdieaaGreat

/- Plain: weak references; equal lists, cells, memories; valid memories, on both sides. -/
namespace Go.Proofs.YtmbaennilhdieaaGreat
open Go.RowKit

def weaklyL (c : DCell) : List Int := pick (fun i v => weakB c.Kind i && hasB v) 0 c.More
theorem weakly_prog (N : Nat) (hN : 2000 < N) (c : DCell) (hS : c.Slots.length ≤ 1000) (hc : c.More.length ≤ 1000) : cell_Weakly_O N c = some (weaklyL c) := by
  unfold cell_Weakly_O weaklyL
  rw [addresses_spec N hN false c hS hc, bs]
  have e1 : (fun (_ : Nat) (v : DValue) => (true == false) && hasB v) = fun _ _ => false := by funext i v; rfl
  have e2 : (fun (i : Nat) (v : DValue) => (strongB c.Kind i == false) && hasB v) = fun i v => weakB c.Kind i && hasB v := by funext i v; rw [strong_weak]; cases weakB c.Kind i <;> rfl
  rw [e1, e2, pick_none, List.nil_append]
theorem weaklyL_len (c : DCell) : (weaklyL c).length ≤ c.More.length := pick_len _ 0 c.More
theorem weaklyL_mem {c : DCell} {x : Int} (h : x ∈ weaklyL c) : ∃ v ∈ c.Slots ++ c.More, v.N = x := by
  obtain ⟨v, h1, h2⟩ := pick_mem h
  exact ⟨v, List.mem_append_right _ h1, h2⟩
theorem weakly_ref (N : Nat) (hN : 2000 < N) (c : DCell) (hc : c.More.length ≤ 1000) : pantomimeref15_Weakly_O N c = some (weaklyL c) := by
  apply Sat.eq
  unfold pantomimeref15_Weakly_O weaklyL
  refine loop_inv (fun m i s => pantomimeref15_Weakly_l6 N c m s (i : Int)) c.More.length (fun i t => t ++ pick (fun i v => weakB c.Kind i && hasB v) i (c.More.drop i) = pick (fun i v => weakB c.Kind i && hasB v) 0 c.More ∧ t.length ≤ i) _ ?_ ?_ N 0 [] (by omega) (by omega) ⟨by simp, by simp⟩
  · rintro m i s hi ⟨h1, h2⟩ k
    show Sat (pantomimeref15_Weakly_l6 N c (m + 1) s i) _
    rw [List.drop_eq_getElem_cons hi, pick_cons] at h1
    rw [pantomimeref15_Weakly_l6_s, lt_t (by omega), ct, getE_n hi, bs, ref_has_spec, bs, weak_spec _ _ _ (by omega)]
    unfold pantomimeref15_Weakly_j11
    simp only [bs]
    rw [r64 (a := (i : Int) + 1) (by omega) (by omega)]
    cases hh : hasB c.More[i] <;> cases hw : weakB c.Kind i <;> simp only [hh, hw, Bool.and_true, Bool.and_false, Bool.and_self, ct, cf, bs, List.nil_append] at h1 ⊢
    · rw [r64 (by omega) (by omega)]; exact k s ⟨h1, by omega⟩
    · rw [r64 (by omega) (by omega)]; exact k s ⟨h1, by omega⟩
    · rw [r64 (by omega) (by omega)]; exact k s ⟨h1, by omega⟩
    · rw [rF (by simp; omega)]
      exact k _ ⟨by rw [List.append_assoc]; exact h1, by simp; omega⟩
  · rintro m s ⟨h1, h2⟩
    show Sat (pantomimeref15_Weakly_l6 N c (m + 1) s _) _
    rw [List.drop_length] at h1
    rw [pantomimeref15_Weakly_l6_s, lt_f (by omega), cf]
    exact sat_some (by rw [← h1]; simp [pick])
/-- equal lists of addresses -/
theorem same19 (N : Nat) (a b : List Int) (ha : a.length < N) (ha2 : a.length ≤ 5000) : pantomimeref19_Same_O N a b = some (decide (a = b)) := by
  unfold pantomimeref19_Same_O
  refine eq_loop _ a b (fun hl m i h h' => ?_) (fun m => ?_) N ha
  · rw [pantomimeref19_Same_l5_s, lt_t (by omega), ct, getE_n h, bs, getE_n h', bs, r64 (by omega) (by omega)]
    cases decide (a[i] = b[i]) <;> rfl
  · rw [pantomimeref19_Same_l5_s, lt_f (by omega), cf]; rfl
theorem sameV (N : Nat) (a b : List DValue) (ha : a.length < N) (ha2 : a.length ≤ 5000) : pantomimeref15_SameValues_O N a b = some (decide (a = b)) := by
  unfold pantomimeref15_SameValues_O
  refine eq_loop _ a b (fun hl m i h h' => ?_) (fun m => ?_) N ha
  · rw [pantomimeref15_SameValues_l5_s, lt_t (by omega), ct, getE_n h, bs, getE_n h', bs, r64 (by omega) (by omega)]
    cases decide (a[i] = b[i]) <;> rfl
  · rw [pantomimeref15_SameValues_l5_s, lt_f (by omega), cf]; rfl
theorem cell_eq (a b : DCell) : decide (a = b) = (decide (a.Kind = b.Kind) && decide (a.Shape = b.Shape) && decide (a.Flags = b.Flags) && decide (a.Age = b.Age) && decide (a.Slots = b.Slots) && decide (a.More = b.More)) := by
  obtain ⟨a1, a2, a3, a4, a5, a6⟩ := a
  obtain ⟨b1, b2, b3, b4, b5, b6⟩ := b
  rw [Bool.eq_iff_iff]
  simp only [Bool.and_eq_true, decide_eq_true_eq, DCell.mk.injEq, and_assoc]
theorem sameC (N : Nat) (a b : DCell) (h1 : a.Slots.length < N) (h2 : a.Slots.length ≤ 5000) (h3 : a.More.length < N) (h4 : a.More.length ≤ 5000) : pantomimeref15_Same_O N a b = some (decide (a = b)) := by
  unfold pantomimeref15_Same_O
  rw [sameV N a.Slots b.Slots h1 h2, sameV N a.More b.More h3 h4, cell_eq]
  simp only [bs]
  cases decide (a.Kind = b.Kind) <;> cases decide (a.Shape = b.Shape) <;> cases decide (a.Flags = b.Flags) <;> cases decide (a.Age = b.Age) <;> cases decide (a.Slots = b.Slots) <;> cases decide (a.More = b.More) <;> rfl
theorem cells19 (N : Nat) (a b : List DCell) (ha : a.length < N) (ha2 : a.length ≤ 5000) (hN : 5000 < N) (hc : ∀ c ∈ a, c.Slots.length ≤ 5000 ∧ c.More.length ≤ 5000) : pantomimeref19_Cells_O N a b = some (decide (a = b)) := by
  unfold pantomimeref19_Cells_O
  refine eq_loop _ a b (fun hl m i h h' => ?_) (fun m => ?_) N ha
  · have h1 := hc a[i] (List.getElem_mem _)
    rw [pantomimeref19_Cells_l5_s, lt_t (by omega), ct, getE_n h, bs, getE_n h', bs, sameC N _ _ (by omega) (by omega) (by omega) (by omega), bs, r64 (by omega) (by omega)]
    cases decide (a[i] = b[i]) <;> rfl
  · rw [pantomimeref19_Cells_l5_s, lt_f (by omega), cf]; rfl
/-- valid memories -/
def wholeB (m : DMemory) (l : List Int) : Bool := l.all (hasM m)
def fineC (N : Nat) (m : DMemory) (c : DCell) : Bool := (pantomimeref15_Right_O N c).getD false && (wholeB m (leadsL c) && wholeB m (weaklyL c))
def rightM (N : Nat) (m : DMemory) (roots : List DValue) : Bool := m.Young.all (fineC N m) && (m.Old.all (fineC N m) && wholeB m (addrL roots))
theorem whole_ref (N : Nat) (m : DMemory) (l : List Int) (hl : l.length < N) (hl2 : l.length ≤ 5000) (h64 : ∀ x ∈ l, in64 x) : pantomimeref19_whole_O N m l = some (wholeB m l) := by
  unfold pantomimeref19_whole_O wholeB
  refine loop_all _ l _ (fun k i h => ?_) (fun k => ?_) N hl
  · rw [pantomimeref19_whole_l6_s, lt_t (by omega), ct, getE_n h, bs, has_ref N m _ (h64 _ (List.getElem_mem _)), bs, r64 (by omega) (by omega)]
    cases hasM m l[i] <;> rfl
  · rw [pantomimeref19_whole_l6_s, lt_f (by omega), cf]; rfl
theorem none_prog (N : Nat) (m : DMemory) (l : List Int) (hl : l.length < N) (hl2 : l.length ≤ 5000) (h64 : ∀ x ∈ l, in64 x) : slices_ContainsFunc_O N l (fun x => reach_Right_c1_O N x m) = some (!wholeB m l) := by
  have key : ∀ k i : Nat, l.length < k + i → i ≤ l.length → Sat (slices_IndexFunc_l3 N (fun x => reach_Right_c1_O N x m) l k (i : Int)) fun r => decide (0 ≤ r) = !(l.drop i).all (hasM m) := by
    intro k
    induction k with
    | zero => intro i h1 h2; omega
    | succ k ih =>
      intro i h1 h2
      rw [slices_IndexFunc_l3_s]
      by_cases hi : i < l.length
      · have h3 := ih (i + 1) (by omega) hi
        rw [show (((i + 1 : Nat)) : Int) = (i : Int) + 1 by omega] at h3
        rw [lt_t (by omega), ct, getE_n hi, bs, List.drop_eq_getElem_cons hi, List.all_cons]
        unfold reach_Right_c1_O
        rw [has_prog N m _ (h64 _ (List.getElem_mem _)), bs, bs, r64 (by omega) (by omega)]
        cases hasM m l[i]
        · exact sat_some (by rw [decide_eq_true (by omega)]; rfl)
        · exact h3
      · rw [lt_f (by omega), cf, List.drop_eq_nil_of_le (by omega)]
        exact sat_some rfl
  obtain ⟨r, h1, h2⟩ := key N 0 (by omega) (by omega)
  have h1' : slices_IndexFunc_l3 N (fun x => reach_Right_c1_O N x m) l N 0 = some r := h1
  unfold slices_ContainsFunc_O slices_IndexFunc_O
  rw [h1', bs, h2]
  unfold wholeB
  simp
theorem weakly_ok {m : DMemory} {roots : List DValue} (hs : Small m roots) (hw : W64 m) {c : DCell} (hc : c ∈ m.Young ++ m.Old) : ((leadsL c).length ≤ 1200 ∧ ∀ x ∈ leadsL c, in64 x) ∧ (weaklyL c).length ≤ 1200 ∧ ∀ x ∈ weaklyL c, in64 x := by
  have h1 := hs.cells c hc
  have h2 := leadsL_len c
  have h3 := weaklyL_len c
  refine ⟨⟨by omega, fun x hx => ?_⟩, by omega, fun x hx => ?_⟩
  · obtain ⟨v, h4, rfl⟩ := leadsL_mem hx
    exact hw c hc v h4
  · obtain ⟨v, h4, rfl⟩ := weaklyL_mem hx
    exact hw c hc v h4
theorem fine_ref (N : Nat) (hN : 5000 < N) {m : DMemory} {roots : List DValue} (hs : Small m roots) (hw : W64 m) (l : List DCell) (hl : l.length ≤ 600) (hl2 : ∀ c ∈ l, c ∈ m.Young ++ m.Old) : pantomimeref19_fine_O N m l = some (l.all (fineC N m)) := by
  unfold pantomimeref19_fine_O
  refine loop_all _ l _ (fun k i h => ?_) (fun k => ?_) N (by omega)
  · have hm := hl2 l[i] (List.getElem_mem _)
    have hc := hs.cells _ hm
    obtain ⟨⟨a1, a2⟩, a3, a4⟩ := weakly_ok hs hw hm
    obtain ⟨b, hb, -⟩ := right_tot N (by omega) l[i] (by omega) (by omega)
    rw [pantomimeref19_fine_l6_s, lt_t (by omega), ct, getE_n h, bs, hb, bs]
    simp only [bs]
    rw [leads_ref N (by omega) _ (by omega) (by omega), weakly_ref N (by omega) _ (by omega), bs, bs, whole_ref N m _ (by omega) (by omega) a2, whole_ref N m _ (by omega) (by omega) a4, bs, bs, r64 (by omega) (by omega)]
    unfold fineC
    rw [hb]
    cases b <;> cases wholeB m (leadsL l[i]) <;> cases wholeB m (weaklyL l[i]) <;> rfl
  · rw [pantomimeref19_fine_l6_s, lt_f (by omega), cf]; rfl
theorem right_ref (N : Nat) (hN : 5000 < N) {m : DMemory} {roots : List DValue} (hs : Small m roots) (hw : W64 m) (hr : ∀ v ∈ roots, in64 v.N) : pantomimeref19_Right_O N m roots = some (rightM N m roots) := by
  have h1 := hs.young; have h2 := hs.old; have h3 := hs.roots
  have hal : (addrL roots).length ≤ 2000 := by
    unfold addrL; rw [List.length_map]; exact Nat.le_trans (List.length_filter_le _ _) (by omega)
  have h64 : ∀ x ∈ addrL roots, in64 x := fun x hx => by
    obtain ⟨v, h1, -, rfl⟩ := addrL_mem.1 hx
    exact hr v h1
  unfold pantomimeref19_Right_O rightM
  rw [r64 (by omega) (by omega), le_t (by omega), ct, fine_ref N hN hs hw m.Young h1 fun c hc => List.mem_append_left _ hc, fine_ref N hN hs hw m.Old h2 fun c hc => List.mem_append_right _ hc, raddr_fun N hN roots (by omega), bs]
  simp only [bs]
  rw [whole_ref N m _ (by omega) (by omega) h64]
  simp only [bs]
  cases m.Young.all (fineC N m) <;> cases m.Old.all (fineC N m) <;> cases wholeB m (addrL roots) <;> rfl
theorem right_prog (N : Nat) (hN : 5000 < N) {m : DMemory} {roots : List DValue} (hs : Small m roots) (hw : W64 m) (hr : ∀ v ∈ roots, in64 v.N) : reach_Right_O N m roots = some (rightM N m roots) := by
  have h1 := hs.young; have h2 := hs.old; have h3 := hs.roots
  -- one row
  have row : ∀ (kb : Int → Option Bool) (p : Int) (l : List DCell), in64 (p + 1) → l.length ≤ 600 → (∀ c ∈ l, c ∈ m.Young ++ m.Old) → reach_Right_l26 N kb m p l N 0 = bif l.all (fineC N m) then kb (p + 1) else some false := by
    intro kb p l hp hl hl2
    refine loop_allk _ l _ _ _ (fun k i h => ?_) (fun k => ?_) N (by omega)
    · have hm := hl2 l[i] (List.getElem_mem _)
      have hc := hs.cells _ hm
      obtain ⟨⟨a1, a2⟩, a3, a4⟩ := weakly_ok hs hw hm
      obtain ⟨b, hb, -⟩ := right_tot N (by omega) l[i] (by omega) (by omega)
      rw [reach_Right_l26_s, lt_t (by omega), ct, getE_n h, bs, right_eq N (by omega) _ (by omega) (by omega), hb, bs, leads_prog N (by omega) _ (by omega) (by omega), weakly_prog N (by omega) _ (by omega) (by omega)]
      simp only [bs]
      rw [none_prog N m _ (by omega) (by omega) a2, none_prog N m _ (by omega) (by omega) a4, bs, bs, r64 (by omega) (by omega)]
      unfold fineC
      rw [hb]
      cases b <;> cases wholeB m (leadsL l[i]) <;> cases wholeB m (weaklyL l[i]) <;> rfl
    · rw [reach_Right_l26_s, lt_f (by omega), cf]
      unfold reach_Right_j23
      exact if_pos hp
  have rows : reach_Right_j7 N m = some (m.Young.all (fineC N m) && m.Old.all (fineC N m)) := by
    obtain ⟨k, rfl⟩ : ∃ k, N = k + 3 := ⟨N - 3, by omega⟩
    unfold reach_Right_j7
    rw [reach_Right_l20_s, show ((([m.Young, m.Old] : List (List DCell)).length : Int)) = 2 from rfl, lt_t (by omega), ct, show getE ([m.Young, m.Old] : List (List DCell)) 0 = some m.Young from rfl, bs, row _ 0 m.Young (by unfold in64; omega) h1 fun c hc => List.mem_append_left _ hc]
    rw [reach_Right_l20_s, show ((([m.Young, m.Old] : List (List DCell)).length : Int)) = 2 from rfl, lt_t (by omega), ct, show getE ([m.Young, m.Old] : List (List DCell)) (0 + 1) = some m.Old from rfl, bs, row _ (0 + 1) m.Old (by unfold in64; omega) h2 fun c hc => List.mem_append_right _ hc]
    rw [reach_Right_l20_s, show ((([m.Young, m.Old] : List (List DCell)).length : Int)) = 2 from rfl, lt_f (by omega), cf]
    unfold reach_Right_j18
    cases m.Young.all (fineC (k + 3) m) <;> cases m.Old.all (fineC (k + 3) m) <;> rfl
  have hroots : reach_Right_l8 N roots m N 0 = bif roots.all (fun v => !hasB v || hasM m v.N) then reach_Right_j7 N m else some false := by
    refine loop_allk _ roots _ _ _ (fun k i h => ?_) (fun k => ?_) N (by omega)
    · have ha : reach_address_O N roots[i] = some (roots[i].N, hasB roots[i]) := by
        unfold reach_address_O; rw [kind_has, bs]
      rw [reach_Right_l8_s, lt_t (by omega), ct, getE_n h, bs, ha, bs]
      simp only
      rw [has_prog N m _ (hr _ (List.getElem_mem _)), bs, r64 (by omega) (by omega)]
      cases hasB roots[i] <;> cases hasM m roots[i].N <;> rfl
    · rw [reach_Right_l8_s, lt_f (by omega), cf]
  unfold reach_Right_O rightM
  rw [r64 (by omega) (by omega), lt_f (by omega), cf, hroots, rows]
  have e : wholeB m (addrL roots) = roots.all (fun v => !hasB v || hasM m v.N) := by
    unfold wholeB addrL; rw [all_map, all_filter]
  rw [e]
  cases m.Young.all (fineC N m) <;> cases m.Old.all (fineC N m) <;> cases roots.all (fun v => !hasB v || hasM m v.N) <;> rfl
end Go.Proofs.YtmbaennilhdieaaGreat

/- Plain: cleaned weak maps, bare registries, equal values. -/
namespace Go.Proofs.YtmbaennilhdieaaGreat
open Go.RowKit

/-- the entries whose keys are kept -/
def cleanL (p : Int → Bool) : List DValue → List DValue
  | k :: v :: r => (bif p k.N then [k, v] else []) ++ cleanL p r
  | _ => []
def cleanW (N : Nat) (l : List Int) (c : DCell) : DCell := bif isWM N c then ⟨c.Kind, c.Shape, c.Flags, c.Age, c.Slots, cleanL (fun x => decide (x ∈ l)) c.More⟩ else c
/-- valid registries -/
def isFR (N : Nat) (c : DCell) : Bool := decide (c.Kind = 10) && (pantomimeref15_Right_O N c).getD false
def bareC (N : Nat) (c : DCell) : DCell := bif isFR N c then ⟨c.Kind, c.Shape, c.Flags, c.Age, c.Slots, c.More.take 1⟩ else c
def bareM (N : Nat) (m : DMemory) : DMemory := ⟨m.Young.map (bareC N), m.Old.map (bareC N)⟩
theorem Small.cell {m : DMemory} {roots : List DValue} (hs : Small m roots) {c : DCell} (h : c ∈ m.Young ++ m.Old) : c.Slots.length ≤ 600 ∧ c.More.length ≤ 600 := hs.cells c h
theorem copied_spec (N : Nat) (hN : 5000 < N) (l : List DCell) (hl : l.length ≤ 1000) (hc : ∀ c ∈ l, c.Slots.length ≤ 600 ∧ c.More.length ≤ 600) : pantomimeref19_copied_O N l = some l := by
  apply Sat.eq
  unfold pantomimeref19_copied_O
  refine loop_inv (fun k i (s : List DCell) => pantomimeref19_copied_l5 N l k s (i : Int)) l.length (fun i s => s = l.take i) _ ?_ ?_ N 0 [] (by omega) (by omega) (by simp)
  · rintro k i s hi h1 go
    subst h1
    have hci := hc l[i] (List.getElem_mem _)
    show Sat (pantomimeref19_copied_l5 N l (k + 1) (l.take i) (i : Int)) _
    rw [pantomimeref19_copied_l5_s, lt_t (by omega), ct, getE_n hi, bs]
    rw [rF (by simp; omega), rF (by simp; omega), rF (by simp; omega), r64 (by omega) (by omega)]
    refine go _ ?_
    rw [take_succ_get hi]; rfl
  · rintro k s h1
    subst h1
    show Sat (pantomimeref19_copied_l5 N l (k + 1) _ _) _
    rw [pantomimeref19_copied_l5_s, lt_f (by omega), cf]
    exact sat_some (by simp)
theorem copied_mem (N : Nat) (hN : 5000 < N) {m : DMemory} {roots : List DValue} (hs : Small m roots) : pantomimeref19_Copied_O N m = some m := by
  have h1 := hs.young
  have h2 := hs.old
  unfold pantomimeref19_Copied_O
  rw [copied_spec N hN m.Young (by omega) fun c hc => hs.cell (List.mem_append_left _ hc), bs, copied_spec N hN m.Old (by omega) fun c hc => hs.cell (List.mem_append_right _ hc), bs]
end Go.Proofs.YtmbaennilhdieaaGreat

/- Plain: Alike holds where both sides are traversed alike and hold the same cells. -/
namespace Go.Proofs.YtmbaennilhdieaaGreat
open Go.RowKit

end Go.Proofs.YtmbaennilhdieaaGreat

/- Plain: memories of a bounded size. -/
namespace Go.Proofs.YtmbaennilhdieaaGreat
open Go.RowKit

/-- lengths of what is read -/
structure Bnd (B : Nat) (m : DMemory) (roots : List DValue) : Prop where
  young : m.Young.length ≤ B
  old : m.Old.length ≤ B
  roots : roots.length ≤ B
  cells : ∀ c ∈ m.Young ++ m.Old, c.Slots.length ≤ B ∧ c.More.length ≤ B
theorem few_spec (N : Nat) (hN : 5000 < N) {m : DMemory} {roots : List DValue} (hb : Bnd 140737488355328 m roots) : Sat (pantomimeref19_Few_O N m roots) fun b => b = true → Small m roots := by
  have hy := hb.young; have ho := hb.old; have hr := hb.roots
  have old : ∀ p : Nat, p ≤ 300000000000000 → (p ≤ 600 → roots.length ≤ p ∧ m.Young.length ≤ p ∧ ∀ c ∈ m.Young, c.Slots.length ≤ p ∧ c.More.length ≤ p) → Sat (pantomimeref19_Few_j5 N m (p : Int)) fun b => b = true → Small m roots := by
    intro p hp hY
    unfold pantomimeref19_Few_j5
    refine loop_dec (fun f (s : Nat × Nat) => pantomimeref19_Few_l26 N m f (s.1 : Int) (s.2 : Int)) (fun s => 700 - s.1) (fun s => s.1 ≤ 300000000000000 ∧ s.2 ≤ m.Old.length ∧ (s.1 ≤ 600 → (roots.length ≤ s.1 ∧ m.Young.length ≤ s.1 ∧ ∀ c ∈ m.Young, c.Slots.length ≤ s.1 ∧ c.More.length ≤ s.1) ∧ s.2 ≤ s.1 ∧ ∀ c ∈ m.Old.take s.2, c.Slots.length ≤ s.1 ∧ c.More.length ≤ s.1)) _ ?_ N (p, 0) (by show 700 - p < N; omega) ⟨hp, Nat.zero_le _, fun h => ⟨hY h, Nat.zero_le _, by simp⟩⟩
    rintro f ⟨p, i⟩ ⟨h1, h2, h3⟩ go
    show Sat (pantomimeref19_Few_l26 N m (f + 1) (p : Int) (i : Int)) _
    simp only at h1 h2 h3
    rw [pantomimeref19_Few_l26_s]
    have fin : (i = m.Old.length ∨ 600 < p) → Sat (pantomimeref19_Few_j24 N (p : Int)) fun b => b = true → Small m roots := fun hh => sat_some fun hb2 => by
      have hp6 : (p : Int) ≤ 600 := of_decide_eq_true hb2
      obtain ⟨⟨k1, k2, k3⟩, k4, k5⟩ := h3 (by omega)
      have hi : i = m.Old.length := by omega
      subst hi
      rw [List.take_length] at k5
      exact ⟨by omega, by omega, by omega, fun c hc => by
        rcases List.mem_append.1 hc with hc | hc
        · have := k3 c hc; omega
        · have := k5 c hc; omega⟩
    by_cases hi : i < m.Old.length
    · rw [lt_t (by omega), ct, bs]
      refine sat_dec (fun h6 => ?_) fun h6 => fin (.inr (by omega))
      have hc := hb.cells m.Old[i] (by simp)
      rw [r64 (a := (p : Int) + 1) (by omega) (by omega), getE_n hi, bs, r64 (a := (p : Int) + 1 + (m.Old[i].Slots.length : Int)) (by omega) (by omega), bs, r64 (a := (p : Int) + 1 + (m.Old[i].Slots.length : Int) + (m.Old[i].More.length : Int)) (by omega) (by omega), r64 (a := (i : Int) + 1) (by omega) (by omega)]
      have hg := go (p + 1 + m.Old[i].Slots.length + m.Old[i].More.length, i + 1) (by show 700 - (p + 1 + m.Old[i].Slots.length + m.Old[i].More.length) < 700 - p; omega) ⟨by show p + 1 + m.Old[i].Slots.length + m.Old[i].More.length ≤ 300000000000000; omega, hi, fun h7 => by
        simp only at h7
        obtain ⟨⟨k1, k2, k3⟩, k4, k5⟩ := h3 (by omega)
        refine ⟨⟨by show _ ≤ _ + _; omega, by show _ ≤ _ + _; omega, fun c hc2 => by have := k3 c hc2; constructor <;> (show _ ≤ _ + _; omega)⟩, by show i + 1 ≤ _; omega, fun c hc2 => ?_⟩
        simp only at hc2
        rw [take_succ_get hi, List.mem_append, List.mem_singleton] at hc2
        rcases hc2 with hc2 | rfl
        · have := k5 c hc2; constructor <;> (show _ ≤ _ + _; omega)
        · constructor <;> (show _ ≤ _ + _; omega)⟩
      simpa using hg
    · rw [lt_f (by omega), cf, bs, cf]
      exact fin (.inl (by omega))
  unfold pantomimeref19_Few_O
  refine loop_dec (fun f (s : Nat × Nat) => pantomimeref19_Few_l7 N m f (s.1 : Int) (s.2 : Int)) (fun s => 700 - s.1) (fun s => s.1 ≤ 300000000000000 ∧ s.2 ≤ m.Young.length ∧ (s.1 ≤ 600 → roots.length ≤ s.1 ∧ s.2 ≤ s.1 ∧ ∀ c ∈ m.Young.take s.2, c.Slots.length ≤ s.1 ∧ c.More.length ≤ s.1)) _ ?_ N (roots.length, 0) (by show 700 - roots.length < N; omega) ⟨by show roots.length ≤ 300000000000000; omega, Nat.zero_le _, fun h => ⟨Nat.le_refl _, Nat.zero_le _, by simp⟩⟩
  rintro f ⟨p, i⟩ ⟨h1, h2, h3⟩ go
  show Sat (pantomimeref19_Few_l7 N m (f + 1) (p : Int) (i : Int)) _
  simp only at h1 h2 h3
  rw [pantomimeref19_Few_l7_s]
  by_cases hi : i < m.Young.length
  · rw [lt_t (by omega), ct, bs]
    refine sat_dec (fun h6 => ?_) fun h6 => old p h1 fun h7 => absurd h7 (by omega)
    have hc := hb.cells m.Young[i] (by simp)
    rw [r64 (a := (p : Int) + 1) (by omega) (by omega), getE_n hi, bs, r64 (a := (p : Int) + 1 + (m.Young[i].Slots.length : Int)) (by omega) (by omega), bs, r64 (a := (p : Int) + 1 + (m.Young[i].Slots.length : Int) + (m.Young[i].More.length : Int)) (by omega) (by omega), r64 (a := (i : Int) + 1) (by omega) (by omega)]
    have hg := go (p + 1 + m.Young[i].Slots.length + m.Young[i].More.length, i + 1) (by show 700 - (p + 1 + m.Young[i].Slots.length + m.Young[i].More.length) < 700 - p; omega) ⟨by show p + 1 + m.Young[i].Slots.length + m.Young[i].More.length ≤ 300000000000000; omega, hi, fun h7 => by
      simp only at h7
      obtain ⟨k1, k4, k5⟩ := h3 (by omega)
      refine ⟨by show _ ≤ _ + _; omega, by show i + 1 ≤ _; omega, fun c hc2 => ?_⟩
      simp only at hc2
      rw [take_succ_get hi, List.mem_append, List.mem_singleton] at hc2
      rcases hc2 with hc2 | rfl
      · have := k5 c hc2; constructor <;> (show _ ≤ _ + _; omega)
      · constructor <;> (show _ ≤ _ + _; omega)⟩
    simpa using hg
  · rw [lt_f (by omega), cf, bs, cf]
    have hie : i = m.Young.length := by omega
    subst hie
    refine old p h1 fun h7 => ?_
    obtain ⟨k1, k4, k5⟩ := h3 h7
    rw [List.take_length] at k5
    exact ⟨k1, k4, k5⟩
end Go.Proofs.YtmbaennilhdieaaGreat

/- Plain: ReachMeets. -/
namespace Go.Proofs.YtmbaennilhdieaaGreat
open Go.RowKit

theorem strong_prog (N : Nat) (hN : 5000 < N) {m : DMemory} {roots : List DValue} {b : DRow} (h : reach_begin_O N m roots = some b) (hl : b.all_.length ≤ 2000) : reach_Strong_O N m roots = some (sortL b.all_) := by
  unfold reach_Strong_O slices_Values_61_O
  rw [h, bs, bs, sorted_spec N hN _ hl, bs]
theorem meets_law {m : DMemory} {roots : List DValue} {x : Int} (hb : Bnd 140737488355328 m roots) (hw : W64 m) (hr : ∀ v ∈ roots, in64 v.N) (hx : in64 x) : pantomimelaw19_ReachMeets_O 6000 m roots x = some true := by
  apply Sat.eq
  unfold pantomimelaw19_ReachMeets_O
  refine Sat.bind (few_spec 6000 (by decide) hb) fun b hfew => ?_
  refine sat_not (fun _ => ?_) fun hb1 => ?_
  · rw [goes_true]; exact sat_some rfl
  have hs := hfew hb1
  have hyl := hs.young
  have hol := hs.old
  obtain ⟨bg, all, ho, hlen, hlb, hbg, o0⟩ := order_fun 6000 (by decide) hs hw hr
  obtain ⟨b', all', ho', r0, r1⟩ := rorder_fun 6000 (by decide) hs hw hr
  obtain ⟨e1, e2⟩ := ho.det ho'
  subst e2
  subst e1
  have hn := ho.nodup
  have hlive : reach_Live_O 6000 m roots = some (sortL all) := live_of o0 (by omega) rfl
  have hstrong := strong_prog 6000 (by decide) hbg (by omega)
  have hrl : pantomimeref19_Live_O 6000 m roots = some (sortL all) := by
    unfold pantomimeref19_Live_O
    rw [r0, bs, rising_fun 6000 (by decide) all (by omega) hn.2, bs]
  have hrs : pantomimeref19_Strong_O 6000 m roots = some (sortL bg.all_) := by
    unfold pantomimeref19_Strong_O
    have e : ∀ (f : List Int → Option (List Int)), ((pantomimeref19_addresses_O 6000 roots).bind fun y5 => (pantomimeref19_lay_O 6000 m ([] : List Int) y5).bind fun y8 => (pantomimeref19_through_O 6000 m y8 0).bind f) = ((((pantomimeref19_addresses_O 6000 roots).bind fun y5 => (pantomimeref19_lay_O 6000 m ([] : List Int) y5).bind fun y8 => pantomimeref19_through_O 6000 m y8 0)).bind f) := fun f => by
      cases pantomimeref19_addresses_O 6000 roots with
      | none => rfl
      | some y => simp only [bs]; cases pantomimeref19_lay_O 6000 m [] y with
        | none => rfl
        | some z => rfl
    rw [e, r1, bs, rising_fun 6000 (by decide) bg.all_ (by omega) hn.1, bs]
  have ll1 := sortL_len all
  have ll2 := sortL_len bg.all_
  have hat := hs.at_ x
  rw [copied_mem 6000 (by decide) hs, bs, has_prog 6000 m x hx, bs, has_ref 6000 m x hx, bs, beq_self_eq_true, nt, cf, at_prog 6000 hs x hx, bs, at_ref 6000 m x hx, bs, sameC 6000 _ _ (by omega) (by omega) (by omega) (by omega), bs, decide_eq_true (p := atM m x = atM m x) rfl, nt, bs, cf]
  rw [right_prog 6000 (by decide) hs hw hr, bs, right_ref 6000 (by decide) hs hw hr, bs, beq_self_eq_true, nt, bs, cf, hstrong, bs, hrs, bs, same19 6000 _ _ (by omega) (by omega), bs, decide_eq_true (p := sortL bg.all_ = sortL bg.all_) rfl, nt, cf, hlive, bs, hrl, bs, same19 6000 _ _ (by omega) (by omega), bs, decide_eq_true (p := sortL all = sortL all) rfl, nt, bs, cf, o0, bs, r0, bs, same19 6000 _ _ (by omega) (by omega), bs, decide_eq_true (p := all = all) rfl, nt, bs, cf, bs]
  generalize hc : atM m x = c at *
  refine loop_inv (fun k i (s : List DValue) => pantomimelaw19_ReachMeets_l49 6000 c m m k (i : Int) s) c.More.length (fun i s => s.length = c.More.length) _ ?_ ?_ 6000 0 c.More (by omega) (by omega) rfl
  · rintro k i s hi h1 go
    show Sat (pantomimelaw19_ReachMeets_l49 6000 c m m (k + 1) (i : Int) s) _
    rw [pantomimelaw19_ReachMeets_l49_s, lt_t (by omega), ct, getE_n (by omega), bs, r64 (by omega) (by omega)]
    exact go _ (by rw [List.length_set]; exact h1)
  · rintro k s h1
    show Sat (pantomimelaw19_ReachMeets_l49 6000 c m m (k + 1) _ s) _
    rw [pantomimelaw19_ReachMeets_l49_s, lt_f (by omega), cf]
    unfold pantomimelaw19_ReachMeets_j48
    have hcl : ∀ c ∈ m.Young ++ m.Old, c.Slots.length ≤ 5000 ∧ c.More.length ≤ 5000 := fun c hc => by have := hs.cells c hc; omega
    rw [cells19 6000 _ _ (by omega) (by omega) (by decide) fun c hc => hcl c (List.mem_append_left _ hc), bs, decide_eq_true (p := m.Young = m.Young) rfl, ct, cells19 6000 _ _ (by omega) (by omega) (by decide) fun c hc => hcl c (List.mem_append_right _ hc), bs, decide_eq_true (p := m.Old = m.Old) rfl, bs, ct, goes_true, bs, bs]
    exact sat_some rfl
end Go.Proofs.YtmbaennilhdieaaGreat

/- Plain: what is read is of a bounded size. -/
namespace Go.Proofs.YtmbaennilhdieaaGreat
open Go.RowKit

theorem reach_le : reachBytes ≤ 140737488355328 := by decide
theorem read_mem (m : DMemory) (roots : List DValue) (hm : wfwDMemory m) (hr : WfL (fun z => wfwDValue z) roots) : Bnd 140737488355328 m roots ∧ W64 m ∧ ∀ v ∈ roots, in64 v.N := by
  have hb := reach_le
  obtain ⟨⟨y1, y2⟩, o1, o2⟩ := hm
  have hc : ∀ c ∈ m.Young ++ m.Old, wfwDCell c := fun c hc => (List.mem_append.1 hc).elim (y2 c) (o2 c)
  refine ⟨⟨Nat.le_trans y1 hb, Nat.le_trans o1 hb, Nat.le_trans hr.1 hb, fun c h => ?_⟩, fun c h v hv => ?_, fun v hv => (hr.2 v hv).2.1⟩
  · obtain ⟨-, -, -, -, s, t⟩ := hc c h
    exact ⟨Nat.le_trans s.1 hb, Nat.le_trans t.1 hb⟩
  · obtain ⟨-, -, -, -, s, t⟩ := hc c h
    rcases List.mem_append.1 hv with hv | hv
    · exact (s.2 v hv).2.1
    · exact (t.2 v hv).2.1
end Go.Proofs.YtmbaennilhdieaaGreat

/- Plain: ReachMeets for what can be read. -/
namespace Go.Proofs.YtmbaennilhdieaaGreat
open Go.RowKit

theorem meets_top (m : DMemory) (roots : List DValue) (x : Int) (hm : wfwDMemory m) (hr : WfL (fun z => wfwDValue z) roots) (hx : in64 x) : pantomimelaw19_ReachMeets_O 6000 m roots x = some true := by
  obtain ⟨h1, h2, h3⟩ := read_mem m roots hm hr
  exact meets_law h1 h2 h3 hx
end Go.Proofs.YtmbaennilhdieaaGreat
