/- Plain facts: whether a cell leads to the nursery, on both sides. -/
import Derived.Test.YtancgbfkpoeffaaRp1
namespace Go.Proofs.Ytancgbfkpoeffaa
open Go.RowKit Go.ChangeShapes Go.WideShapes Go.Deep

def hasB (v : DValue) : Bool := decide (v.Kind = 7) || decide (v.Kind = 9)
def ygB (n : Int) : Bool := decide (0 < n) && decide (n.tmod 2 = 1)
def strongB (k : Int) (i : Nat) : Bool := !decide (k = 8) && (!decide (k = 10) || decide ((i : Int).tmod 2 = 0))
def pick (f : Nat → DValue → Bool) : Nat → List DValue → List Int
  | _, [] => []
  | i, v :: l => (bif f i v then [v.N] else []) ++ pick f (i + 1) l
theorem pick_cons (f : Nat → DValue → Bool) (i : Nat) (v : DValue) (l : List DValue) : pick f i (v :: l) = (bif f i v then [v.N] else []) ++ pick f (i + 1) l := rfl
def youngS (c : DCell) : Bool := (c.Slots ++ c.More).any fun v => hasB v && ygB v.N
theorem pick_len (f : Nat → DValue → Bool) : ∀ (i : Nat) (l : List DValue), (pick f i l).length ≤ l.length
  | _, [] => Nat.le_refl _
  | i, v :: l => by
    have := pick_len f (i + 1) l
    unfold pick
    cases f i v <;> simp <;> omega
theorem pick_any (s : Nat → Bool) (p : Int → Bool) : ∀ (i : Nat) (l : List DValue), ((pick (fun i v => s i && hasB v) i l).any p || (pick (fun i v => !s i && hasB v) i l).any p) = l.any fun v => hasB v && p v.N
  | _, [] => rfl
  | i, v :: l => by
    have := pick_any s p (i + 1) l
    unfold pick
    rw [List.any_append, List.any_append, List.any_cons, ← this]
    cases s i <;> cases hasB v <;> simp [Bool.or_assoc, Bool.or_left_comm]
theorem pick_true (p : Int → Bool) : ∀ (i : Nat) (l : List DValue), (pick (fun _ v => hasB v) i l).any p = l.any fun v => hasB v && p v.N
  | _, [] => rfl
  | i, v :: l => by
    have := pick_true p (i + 1) l
    unfold pick
    rw [List.any_append, List.any_cons, ← this]
    cases hasB v <;> simp
theorem pick_none : ∀ (i : Nat) (l : List DValue), pick (fun _ _ => false) i l = []
  | _, [] => rfl
  | i, v :: l => by unfold pick; simp [pick_none (i + 1) l]
theorem cell_leads_spec (N : Nat) (v : DValue) : cell_leads_O N v = some (hasB v) := by
  unfold cell_leads_O hasB; cases decide (v.Kind = 7) <;> rfl
theorem ref_has_spec (N : Nat) (v : DValue) : pantomimeref15_has_O N v = some (hasB v) := by
  unfold pantomimeref15_has_O hasB; cases decide (v.Kind = 7) <;> rfl
theorem remset_young_spec (N : Nat) (n : Int) : remset_young_O N n = some (ygB n) := by
  unfold remset_young_O ygB; cases decide (0 < n) <;> rfl
theorem body_spec (N : Nat) (a b : Bool) (x : DValue) (p : List Int) (h : p.length ≤ 5000) : liftR (fun x st => cell_addresses_b8 N a x st) (b, x) (none, p) = some (true, (none, p ++ (bif (b == a) && hasB x then [x.N] else []))) := by
  unfold liftR cell_addresses_b8
  simp only [cell_leads_spec, Option.bind_some]
  cases b == a
  · simp
  · cases hasB x
    · simp
    · have : fitsL (p.length + [x.N].length) := by unfold fitsL; simp only [List.length_cons, List.length_nil]; omega
      simp only [cond_true, Option.bind_some, Bool.and_self]
      rw [req_pos this]
      rfl
theorem all_l15 (N : Nat) (a : Bool) (c : DCell) (hc : c.More.length ≤ 1000) (K : Nat) (hK : K ≤ 1000) : ∀ (m i : Nat) (p : List Int), c.More.length < m + i → i ≤ c.More.length → p.length ≤ K + i → cell_all_c1_l15 N (liftR (fun x st => cell_addresses_b8 N a x st)) c m (i : Int) (none, p) = some (none, p ++ pick (fun i v => (strongB c.Kind i == a) && hasB v) i (c.More.drop i))
  | 0, i, p, h, h2, _ => by omega
  | m + 1, i, p, h, h2, h3 => by
    rw [cell_all_c1_l15_s]
    by_cases hi : i < c.More.length
    · rw [show (decide ((i : Int) < (c.More.length : Int))) = true from decide_eq_true (by omega), getE_nat, List.getElem?_eq_getElem hi, List.drop_eq_getElem_cons hi]
      simp only [cond_true, Option.bind_some]
      have hs : (bif !decide (c.Kind = 8) then ((bif !decide (c.Kind = 10) then (some true) else (some (decide ((i : Int).tmod 2 = 0)))).bind fun b22 => some b22) else (some false)) = some (strongB c.Kind i) := by
        unfold strongB; cases decide (c.Kind = 8) <;> cases decide (c.Kind = 10) <;> rfl
      rw [hs]
      simp only [Option.bind_some]
      rw [body_spec N a _ _ _ (by omega)]
      rw [Option.bind_some]
      dsimp only
      rw [Bool.not_true, cond_false]
      rw [req_pos (by unfold in64; omega)]
      have hlen : (p ++ (bif (strongB c.Kind i == a) && hasB c.More[i] then [c.More[i].N] else [])).length ≤ K + (i + 1) := by
        cases (strongB c.Kind i == a) && hasB c.More[i] <;> simp <;> omega
      have := all_l15 N a c hc K hK m (i + 1) _ (by omega) hi hlen
      simp only [Int.natCast_add, Int.cast_ofNat_Int] at this
      rw [this]
      rw [pick_cons, List.append_assoc]
    · rw [show (decide ((i : Int) < (c.More.length : Int))) = false from decide_eq_false (by omega), List.drop_eq_nil_of_le (by omega)]
      simp [pick]
theorem all_l6 (N : Nat) (hN : 2000 < N) (a : Bool) (c : DCell) (hS : c.Slots.length ≤ 1000) (hc : c.More.length ≤ 1000) : ∀ (m i : Nat) (p : List Int), c.Slots.length < m + i → i ≤ c.Slots.length → p.length ≤ i → cell_all_c1_l6 N (liftR (fun x st => cell_addresses_b8 N a x st)) c m (i : Int) (none, p) = some (none, (p ++ pick (fun _ v => (true == a) && hasB v) i (c.Slots.drop i)) ++ pick (fun i v => (strongB c.Kind i == a) && hasB v) 0 c.More)
  | 0, i, p, h, h2, _ => by omega
  | m + 1, i, p, h, h2, h3 => by
    rw [cell_all_c1_l6_s]
    by_cases hi : i < c.Slots.length
    · rw [show (decide ((i : Int) < (c.Slots.length : Int))) = true from decide_eq_true (by omega), getE_nat, List.getElem?_eq_getElem hi, List.drop_eq_getElem_cons hi]
      simp only [cond_true, Option.bind_some]
      rw [body_spec N a _ _ _ (by omega)]
      rw [Option.bind_some]
      dsimp only
      rw [Bool.not_true, cond_false]
      rw [req_pos (by unfold in64; omega)]
      have hlen : (p ++ (bif (true == a) && hasB c.Slots[i] then [c.Slots[i].N] else [])).length ≤ (i + 1) := by
        cases (true == a) && hasB c.Slots[i] <;> simp <;> omega
      have := all_l6 N hN a c hS hc m (i + 1) _ (by omega) hi hlen
      simp only [Int.natCast_add, Int.cast_ofNat_Int] at this
      rw [this]
      rw [pick_cons, List.append_assoc p]
    · rw [show (decide ((i : Int) < (c.Slots.length : Int))) = false from decide_eq_false (by omega), List.drop_eq_nil_of_le (by omega)]
      simp only [cond_false, cell_all_c1_j4]
      have := all_l15 N a c hc p.length (by omega) N 0 p (by omega) (by omega) (by omega)
      simp only [Int.natCast_zero, Int.cast_ofNat_Int] at this
      rw [this]
      simp [pick]
theorem addresses_spec (N : Nat) (hN : 2000 < N) (a : Bool) (c : DCell) (hS : c.Slots.length ≤ 1000) (hc : c.More.length ≤ 1000) : cell_addresses_O N c a = some (pick (fun _ v => (true == a) && hasB v) 0 c.Slots ++ pick (fun i v => (strongB c.Kind i == a) && hasB v) 0 c.More) := by
  unfold cell_addresses_O cell_all_O cell_all_c1_O
  have := all_l6 N hN a c hS hc N 0 [] (by omega) (by omega) (by simp)
  simp only [Int.natCast_zero, Int.cast_ofNat_Int] at this
  rw [Option.bind_some, this, Option.bind_some, req_pos rfl]
  simp
theorem index_l3 (N : Nat) (f : Int → Option Bool) (g : Int → Bool) (hf : ∀ x, f x = some (g x)) (l : List Int) (hl : l.length ≤ 5000) : ∀ (m i : Nat), l.length < m + i → i ≤ l.length → ∃ r, slices_IndexFunc_l3 N f l m (i : Int) = some r ∧ decide (0 ≤ r) = (l.drop i).any g
  | 0, i, h, h2 => by omega
  | m + 1, i, h, h2 => by
    rw [slices_IndexFunc_l3_s]
    by_cases hi : i < l.length
    · rw [show (decide ((i : Int) < (l.length : Int))) = true from decide_eq_true (by omega), getE_nat, List.getElem?_eq_getElem hi, List.drop_eq_getElem_cons hi]
      rw [cond_true, Option.bind_some, hf, Option.bind_some, List.any_cons]
      cases g l[i]
      · rw [cond_false, Bool.false_or, req_pos (by unfold in64; omega)]
        have := index_l3 N f g hf l hl m (i + 1) (by omega) hi
        simpa only [Int.natCast_add, Int.cast_ofNat_Int] using this
      · exact ⟨_, rfl, by simp⟩
    · rw [show (decide ((i : Int) < (l.length : Int))) = false from decide_eq_false (by omega), List.drop_eq_nil_of_le (by omega)]
      exact ⟨-1, rfl, by simp⟩
theorem contains_spec (N : Nat) (hN : 5000 < N) (f : Int → Option Bool) (g : Int → Bool) (hf : ∀ x, f x = some (g x)) (l : List Int) (hl : l.length ≤ 5000) : slices_ContainsFunc_O N l f = some (l.any g) := by
  obtain ⟨r, h1, h2⟩ := index_l3 N f g hf l hl N 0 (by omega) (by omega)
  unfold slices_ContainsFunc_O slices_IndexFunc_O
  rw [show slices_IndexFunc_l3 N f l N 0 = some r from h1]
  simp only [Option.bind_some, h2, List.drop_zero]
theorem leads_spec (N : Nat) (hN : 5000 < N) (c : DCell) (hS : c.Slots.length ≤ 1000) (hc : c.More.length ≤ 1000) : remset_leads_O N c = some (youngS c) := by
  unfold remset_leads_O cell_Leads_O cell_Weakly_O
  have key : ∀ a, cell_addresses_O N c a = some (pick (fun _ v => (true == a) && hasB v) 0 c.Slots ++ pick (fun i v => (strongB c.Kind i == a) && hasB v) 0 c.More) := fun a => addresses_spec N (by omega) a c hS hc
  have hlen : ∀ a, (pick (fun _ v => (true == a) && hasB v) 0 c.Slots ++ pick (fun i v => (strongB c.Kind i == a) && hasB v) 0 c.More).length ≤ 5000 := fun a => by
    have h1 := pick_len (fun _ v => (true == a) && hasB v) 0 c.Slots
    have h2 := pick_len (fun i v => (strongB c.Kind i == a) && hasB v) 0 c.More
    rw [List.length_append]; omega
  have hcon := fun a => contains_spec N hN (fun x => remset_young_O N x) ygB (fun x => remset_young_spec N x) _ (hlen a)
  simp only [key, Option.bind_some, hcon]
  have h1 := pick_true ygB 0 c.Slots
  have h2 := pick_any (strongB c.Kind) ygB 0 c.More
  have e1 : (fun (i : Nat) (v : DValue) => (strongB c.Kind i == true) && hasB v) = fun i v => strongB c.Kind i && hasB v := by funext i v; cases strongB c.Kind i <;> rfl
  have e2 : (fun (i : Nat) (v : DValue) => (strongB c.Kind i == false) && hasB v) = fun i v => !strongB c.Kind i && hasB v := by funext i v; cases strongB c.Kind i <;> rfl
  have e3 : (fun (_ : Nat) (v : DValue) => (true == true) && hasB v) = fun _ v => hasB v := by funext i v; rfl
  have e4 : (fun (_ : Nat) (v : DValue) => (true == false) && hasB v) = fun _ v => false := by funext i v; rfl
  have hy : youngS c = (c.Slots.any (fun v => hasB v && ygB v.N) || c.More.any fun v => hasB v && ygB v.N) := by unfold youngS; rw [List.any_append]
  rw [hy, ← h1, ← h2, e1, e2, e3, e4, pick_none, List.any_append, List.nil_append]
  generalize (pick (fun _ v => hasB v) 0 c.Slots).any ygB = A
  generalize (pick (fun i v => strongB c.Kind i && hasB v) 0 c.More).any ygB = B
  generalize (pick (fun i v => !strongB c.Kind i && hasB v) 0 c.More).any ygB = C
  cases A <;> cases B <;> cases C <;> rfl
end Go.Proofs.Ytancgbfkpoeffaa
