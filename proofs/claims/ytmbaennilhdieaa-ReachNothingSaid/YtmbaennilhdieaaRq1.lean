/- Plain: references of a cell, on both sides. -/
import Derived.Test.YtmbaennilhdieaaRq0
namespace Go.Proofs.Ytmbaennilhdieaa
open Go.RowKit

theorem getE_nat {α : Type} (xs : List α) (i : Nat) : getE xs (i : Int) = xs[i]? := by
  unfold getE; rw [if_neg (by omega)]; simp
theorem req_pos {ρ : Type} {b : Prop} [Decidable b] {m : Option ρ} (h : b) : req b m = m := if_pos h
def hasB (v : DValue) : Bool := decide (v.Kind = 7) || decide (v.Kind = 9)
def strongB (k : Int) (i : Nat) : Bool := !decide (k = 8) && (!decide (k = 10) || decide ((i : Int).tmod 2 = 0))
def pick (f : Nat → DValue → Bool) : Nat → List DValue → List Int
  | _, [] => []
  | i, v :: l => (bif f i v then [v.N] else []) ++ pick f (i + 1) l
theorem pick_cons (f : Nat → DValue → Bool) (i : Nat) (v : DValue) (l : List DValue) : pick f i (v :: l) = (bif f i v then [v.N] else []) ++ pick f (i + 1) l := rfl
theorem pick_len (f : Nat → DValue → Bool) : ∀ (i : Nat) (l : List DValue), (pick f i l).length ≤ l.length
  | _, [] => Nat.le_refl _
  | i, v :: l => by
    have := pick_len f (i + 1) l
    unfold pick
    cases f i v <;> simp <;> omega
theorem cell_leads_spec (N : Nat) (v : DValue) : cell_leads_O N v = some (hasB v) := by
  unfold cell_leads_O hasB; cases decide (v.Kind = 7) <;> rfl
theorem body_spec (N : Nat) (a b : Bool) (x : DValue) (p : List Int) (h : p.length ≤ 5000) : liftR (fun x st => cell_addresses_b8 N a x st) (b, x) (none, p) = some (true, (none, p ++ (bif (b == a) && hasB x then [x.N] else []))) := by
  unfold liftR cell_addresses_b8
  simp only [cell_leads_spec, Option.bind_some]
  cases b == a
  · simp
  · cases hasB x
    · simp
    · have : fitsL (p.length + [x.N].length) := by unfold fitsL; simp only [List.length_cons, List.length_nil]; omega
      simp only [cond_true, Option.bind_some, Bool.and_self]
      rw [req_pos this]
      rfl
theorem all_l15 (N : Nat) (a : Bool) (c : DCell) (hc : c.More.length ≤ 1000) (K : Nat) (hK : K ≤ 1000) : ∀ (m i : Nat) (p : List Int), c.More.length < m + i → i ≤ c.More.length → p.length ≤ K + i → cell_all_c1_l15 N (liftR (fun x st => cell_addresses_b8 N a x st)) c m (i : Int) (none, p) = some (none, p ++ pick (fun i v => (strongB c.Kind i == a) && hasB v) i (c.More.drop i))
  | 0, i, p, h, h2, _ => by omega
  | m + 1, i, p, h, h2, h3 => by
    rw [cell_all_c1_l15_s]
    by_cases hi : i < c.More.length
    · rw [show (decide ((i : Int) < (c.More.length : Int))) = true from decide_eq_true (by omega), getE_nat, List.getElem?_eq_getElem hi, List.drop_eq_getElem_cons hi]
      simp only [cond_true, Option.bind_some]
      have hs : (bif !decide (c.Kind = 8) then ((bif !decide (c.Kind = 10) then (some true) else (some (decide ((i : Int).tmod 2 = 0)))).bind fun b22 => some b22) else (some false)) = some (strongB c.Kind i) := by
        unfold strongB; cases decide (c.Kind = 8) <;> cases decide (c.Kind = 10) <;> rfl
      rw [hs]
      simp only [Option.bind_some]
      rw [body_spec N a _ _ _ (by omega)]
      rw [Option.bind_some]
      dsimp only
      rw [Bool.not_true, cond_false]
      rw [req_pos (by unfold in64; omega)]
      have hlen : (p ++ (bif (strongB c.Kind i == a) && hasB c.More[i] then [c.More[i].N] else [])).length ≤ K + (i + 1) := by
        cases (strongB c.Kind i == a) && hasB c.More[i] <;> simp <;> omega
      have := all_l15 N a c hc K hK m (i + 1) _ (by omega) hi hlen
      simp only [Int.natCast_add, Int.cast_ofNat_Int] at this
      rw [this]
      rw [pick_cons, List.append_assoc]
    · rw [show (decide ((i : Int) < (c.More.length : Int))) = false from decide_eq_false (by omega), List.drop_eq_nil_of_le (by omega)]
      simp [pick]
theorem all_l6 (N : Nat) (hN : 2000 < N) (a : Bool) (c : DCell) (hS : c.Slots.length ≤ 1000) (hc : c.More.length ≤ 1000) : ∀ (m i : Nat) (p : List Int), c.Slots.length < m + i → i ≤ c.Slots.length → p.length ≤ i → cell_all_c1_l6 N (liftR (fun x st => cell_addresses_b8 N a x st)) c m (i : Int) (none, p) = some (none, (p ++ pick (fun _ v => (true == a) && hasB v) i (c.Slots.drop i)) ++ pick (fun i v => (strongB c.Kind i == a) && hasB v) 0 c.More)
  | 0, i, p, h, h2, _ => by omega
  | m + 1, i, p, h, h2, h3 => by
    rw [cell_all_c1_l6_s]
    by_cases hi : i < c.Slots.length
    · rw [show (decide ((i : Int) < (c.Slots.length : Int))) = true from decide_eq_true (by omega), getE_nat, List.getElem?_eq_getElem hi, List.drop_eq_getElem_cons hi]
      simp only [cond_true, Option.bind_some]
      rw [body_spec N a _ _ _ (by omega)]
      rw [Option.bind_some]
      dsimp only
      rw [Bool.not_true, cond_false]
      rw [req_pos (by unfold in64; omega)]
      have hlen : (p ++ (bif (true == a) && hasB c.Slots[i] then [c.Slots[i].N] else [])).length ≤ (i + 1) := by
        cases (true == a) && hasB c.Slots[i] <;> simp <;> omega
      have := all_l6 N hN a c hS hc m (i + 1) _ (by omega) hi hlen
      simp only [Int.natCast_add, Int.cast_ofNat_Int] at this
      rw [this]
      rw [pick_cons, List.append_assoc p]
    · rw [show (decide ((i : Int) < (c.Slots.length : Int))) = false from decide_eq_false (by omega), List.drop_eq_nil_of_le (by omega)]
      simp only [cond_false, cell_all_c1_j4]
      have := all_l15 N a c hc p.length (by omega) N 0 p (by omega) (by omega) (by omega)
      simp only [Int.natCast_zero, Int.cast_ofNat_Int] at this
      rw [this]
      simp [pick]
theorem addresses_spec (N : Nat) (hN : 2000 < N) (a : Bool) (c : DCell) (hS : c.Slots.length ≤ 1000) (hc : c.More.length ≤ 1000) : cell_addresses_O N c a = some (pick (fun _ v => (true == a) && hasB v) 0 c.Slots ++ pick (fun i v => (strongB c.Kind i == a) && hasB v) 0 c.More) := by
  unfold cell_addresses_O cell_all_O cell_all_c1_O
  have := all_l6 N hN a c hS hc N 0 [] (by omega) (by omega) (by simp)
  simp only [Int.natCast_zero, Int.cast_ofNat_Int] at this
  rw [Option.bind_some, this, Option.bind_some]
  show some _ = some _
  simp
def weakB (k : Int) (i : Nat) : Bool := decide (k = 8) || (decide (k = 10) && (decide (0 < (i : Int)) && decide ((((i : Int) - 1).tmod 4).tmod 2 = 0)))
theorem strong_weak (k : Int) (i : Nat) : strongB k i = !weakB k i := by
  unfold strongB weakB
  by_cases h8 : k = 8
  · subst h8; rfl
  · by_cases h10 : k = 10
    · subst h10
      have e0 : (i : Int).tmod 2 = (i : Int) % 2 := Int.tmod_eq_emod_of_nonneg (by omega)
      by_cases hi : (0 : Int) < i
      · have e1 : ((i : Int) - 1).tmod 4 = ((i : Int) - 1) % 4 := Int.tmod_eq_emod_of_nonneg (by omega)
        have e2 : (((i : Int) - 1) % 4).tmod 2 = (((i : Int) - 1) % 4) % 2 := Int.tmod_eq_emod_of_nonneg (by omega)
        rw [e0, e1, e2]
        by_cases h : (i : Int) % 2 = 0
        · have h2 : ¬ (((i : Int) - 1) % 4) % 2 = 0 := by omega
          rw [decide_eq_true h, decide_eq_false h2, decide_eq_true hi]; rfl
        · have h2 : (((i : Int) - 1) % 4) % 2 = 0 := by omega
          rw [decide_eq_false h, decide_eq_true h2, decide_eq_true hi]; rfl
      · have : i = 0 := by omega
        subst this; rfl
    · simp [h8, h10]
def leadsL (c : DCell) : List Int := pick (fun _ v => hasB v) 0 c.Slots ++ pick (fun i v => !weakB c.Kind i && hasB v) 0 c.More
theorem leads_prog (N : Nat) (hN : 2000 < N) (c : DCell) (hS : c.Slots.length ≤ 1000) (hc : c.More.length ≤ 1000) : cell_Leads_O N c = some (leadsL c) := by
  unfold cell_Leads_O leadsL
  rw [addresses_spec N hN true c hS hc, bs]
  have e1 : (fun (_ : Nat) (v : DValue) => (true == true) && hasB v) = fun _ v => hasB v := by funext i v; rfl
  have e2 : (fun (i : Nat) (v : DValue) => (strongB c.Kind i == true) && hasB v) = fun i v => !weakB c.Kind i && hasB v := by funext i v; rw [strong_weak]; cases weakB c.Kind i <;> rfl
  rw [e1, e2]
theorem leadsL_len (c : DCell) : (leadsL c).length ≤ c.Slots.length + c.More.length := by
  unfold leadsL
  have h1 := pick_len (fun _ v => hasB v) 0 c.Slots
  have h2 := pick_len (fun i v => !weakB c.Kind i && hasB v) 0 c.More
  rw [List.length_append]; omega
theorem pick_mem {f : Nat → DValue → Bool} {x : Int} : ∀ {i : Nat} {l : List DValue}, x ∈ pick f i l → ∃ v ∈ l, v.N = x
  | _, [], h => by cases h
  | i, v :: l, h => by
    rw [pick_cons, List.mem_append] at h
    rcases h with h | h
    · cases hf : f i v
      · rw [hf] at h; cases h
      · rw [hf] at h; exact ⟨v, by simp, (List.mem_singleton.1 h).symm⟩
    · obtain ⟨w, h1, h2⟩ := pick_mem h
      exact ⟨w, by simp [h1], h2⟩
theorem leadsL_mem {c : DCell} {x : Int} (h : x ∈ leadsL c) : ∃ v ∈ c.Slots ++ c.More, v.N = x := by
  unfold leadsL at h
  rcases List.mem_append.1 h with h | h
  · obtain ⟨v, h1, h2⟩ := pick_mem h; exact ⟨v, by simp [h1], h2⟩
  · obtain ⟨v, h1, h2⟩ := pick_mem h; exact ⟨v, by simp [h1], h2⟩
end Go.Proofs.Ytmbaennilhdieaa
