/- Merged texts: part 7. No conditions of their own. -/
import Derived.Test.YtmbaennilhdieaaGreatG6
import Derived.ProofKit
import Derived.Test.YtmbaennilhdieaaGreatG3
/- Plain: references of a cell, on both sides. -/
namespace Go.Proofs.YtmbaennilhdieaaGreat
open Go.RowKit

theorem getE_nat {α : Type} (xs : List α) (i : Nat) : getE xs (i : Int) = xs[i]? := by
  unfold getE; rw [if_neg (by omega)]; simp
theorem req_pos {ρ : Type} {b : Prop} [Decidable b] {m : Option ρ} (h : b) : req b m = m := if_pos h
def hasB (v : DValue) : Bool := decide (v.Kind = 7) || decide (v.Kind = 9)
def strongB (k : Int) (i : Nat) : Bool := !decide (k = 8) && (!decide (k = 10) || decide ((i : Int).tmod 2 = 0))
def pick (f : Nat → DValue → Bool) : Nat → List DValue → List Int
  | _, [] => []
  | i, v :: l => (bif f i v then [v.N] else []) ++ pick f (i + 1) l
theorem pick_cons (f : Nat → DValue → Bool) (i : Nat) (v : DValue) (l : List DValue) : pick f i (v :: l) = (bif f i v then [v.N] else []) ++ pick f (i + 1) l := rfl
theorem pick_len (f : Nat → DValue → Bool) : ∀ (i : Nat) (l : List DValue), (pick f i l).length ≤ l.length
  | _, [] => Nat.le_refl _
  | i, v :: l => by
    have := pick_len f (i + 1) l
    unfold pick
    cases f i v <;> simp <;> omega
theorem cell_leads_spec (N : Nat) (v : DValue) : cell_leads_O N v = some (hasB v) := by
  unfold cell_leads_O hasB; cases decide (v.Kind = 7) <;> rfl
theorem ref_has_spec (N : Nat) (v : DValue) : pantomimeref15_has_O N v = some (hasB v) := by
  unfold pantomimeref15_has_O hasB; cases decide (v.Kind = 7) <;> rfl
theorem body_spec (N : Nat) (a b : Bool) (x : DValue) (p : List Int) (h : p.length ≤ 5000) : liftR (fun x st => cell_addresses_b8 N a x st) (b, x) (none, p) = some (true, (none, p ++ (bif (b == a) && hasB x then [x.N] else []))) := by
  unfold liftR cell_addresses_b8
  simp only [cell_leads_spec, Option.bind_some]
  cases b == a
  · simp
  · cases hasB x
    · simp
    · have : fitsL (p.length + [x.N].length) := by unfold fitsL; simp only [List.length_cons, List.length_nil]; omega
      simp only [cond_true, Option.bind_some, Bool.and_self]
      rw [req_pos this]
      rfl
theorem all_l15 (N : Nat) (a : Bool) (c : DCell) (hc : c.More.length ≤ 1000) (K : Nat) (hK : K ≤ 1000) : ∀ (m i : Nat) (p : List Int), c.More.length < m + i → i ≤ c.More.length → p.length ≤ K + i → cell_all_c1_l15 N (liftR (fun x st => cell_addresses_b8 N a x st)) c m (i : Int) (none, p) = some (none, p ++ pick (fun i v => (strongB c.Kind i == a) && hasB v) i (c.More.drop i))
  | 0, i, p, h, h2, _ => by omega
  | m + 1, i, p, h, h2, h3 => by
    rw [cell_all_c1_l15_s]
    by_cases hi : i < c.More.length
    · rw [show (decide ((i : Int) < (c.More.length : Int))) = true from decide_eq_true (by omega), getE_nat, List.getElem?_eq_getElem hi, List.drop_eq_getElem_cons hi]
      simp only [cond_true, Option.bind_some]
      have hs : (bif !decide (c.Kind = 8) then ((bif !decide (c.Kind = 10) then (some true) else (some (decide ((i : Int).tmod 2 = 0)))).bind fun b22 => some b22) else (some false)) = some (strongB c.Kind i) := by
        unfold strongB; cases decide (c.Kind = 8) <;> cases decide (c.Kind = 10) <;> rfl
      rw [hs]
      simp only [Option.bind_some]
      rw [body_spec N a _ _ _ (by omega)]
      rw [Option.bind_some]
      dsimp only
      rw [Bool.not_true, cond_false]
      rw [req_pos (by unfold in64; omega)]
      have hlen : (p ++ (bif (strongB c.Kind i == a) && hasB c.More[i] then [c.More[i].N] else [])).length ≤ K + (i + 1) := by
        cases (strongB c.Kind i == a) && hasB c.More[i] <;> simp <;> omega
      have := all_l15 N a c hc K hK m (i + 1) _ (by omega) hi hlen
      simp only [Int.natCast_add, Int.cast_ofNat_Int] at this
      rw [this]
      rw [pick_cons, List.append_assoc]
    · rw [show (decide ((i : Int) < (c.More.length : Int))) = false from decide_eq_false (by omega), List.drop_eq_nil_of_le (by omega)]
      simp [pick]
theorem all_l6 (N : Nat) (hN : 2000 < N) (a : Bool) (c : DCell) (hS : c.Slots.length ≤ 1000) (hc : c.More.length ≤ 1000) : ∀ (m i : Nat) (p : List Int), c.Slots.length < m + i → i ≤ c.Slots.length → p.length ≤ i → cell_all_c1_l6 N (liftR (fun x st => cell_addresses_b8 N a x st)) c m (i : Int) (none, p) = some (none, (p ++ pick (fun _ v => (true == a) && hasB v) i (c.Slots.drop i)) ++ pick (fun i v => (strongB c.Kind i == a) && hasB v) 0 c.More)
  | 0, i, p, h, h2, _ => by omega
  | m + 1, i, p, h, h2, h3 => by
    rw [cell_all_c1_l6_s]
    by_cases hi : i < c.Slots.length
    · rw [show (decide ((i : Int) < (c.Slots.length : Int))) = true from decide_eq_true (by omega), getE_nat, List.getElem?_eq_getElem hi, List.drop_eq_getElem_cons hi]
      simp only [cond_true, Option.bind_some]
      rw [body_spec N a _ _ _ (by omega)]
      rw [Option.bind_some]
      dsimp only
      rw [Bool.not_true, cond_false]
      rw [req_pos (by unfold in64; omega)]
      have hlen : (p ++ (bif (true == a) && hasB c.Slots[i] then [c.Slots[i].N] else [])).length ≤ (i + 1) := by
        cases (true == a) && hasB c.Slots[i] <;> simp <;> omega
      have := all_l6 N hN a c hS hc m (i + 1) _ (by omega) hi hlen
      simp only [Int.natCast_add, Int.cast_ofNat_Int] at this
      rw [this]
      rw [pick_cons, List.append_assoc p]
    · rw [show (decide ((i : Int) < (c.Slots.length : Int))) = false from decide_eq_false (by omega), List.drop_eq_nil_of_le (by omega)]
      simp only [cond_false, cell_all_c1_j4]
      have := all_l15 N a c hc p.length (by omega) N 0 p (by omega) (by omega) (by omega)
      simp only [Int.natCast_zero, Int.cast_ofNat_Int] at this
      rw [this]
      simp [pick]
theorem addresses_spec (N : Nat) (hN : 2000 < N) (a : Bool) (c : DCell) (hS : c.Slots.length ≤ 1000) (hc : c.More.length ≤ 1000) : cell_addresses_O N c a = some (pick (fun _ v => (true == a) && hasB v) 0 c.Slots ++ pick (fun i v => (strongB c.Kind i == a) && hasB v) 0 c.More) := by
  unfold cell_addresses_O cell_all_O cell_all_c1_O
  have := all_l6 N hN a c hS hc N 0 [] (by omega) (by omega) (by simp)
  simp only [Int.natCast_zero, Int.cast_ofNat_Int] at this
  rw [Option.bind_some, this, Option.bind_some]
  show some _ = some _
  simp
def weakB (k : Int) (i : Nat) : Bool := decide (k = 8) || (decide (k = 10) && (decide (0 < (i : Int)) && decide ((((i : Int) - 1).tmod 4).tmod 2 = 0)))
theorem weak_spec (N : Nat) (k : Int) (i : Nat) (hi : i ≤ 5000) : pantomimeref15_weak_O N k (i : Int) = some (weakB k i) := by
  unfold pantomimeref15_weak_O weakB
  by_cases h1 : k = 8
  · simp [h1]
  · by_cases h2 : k = 10
    · by_cases h3 : (0 : Int) < i
      · subst h2; simp only [h3, decide_true, ct, bs, r64 (a := (i : Int) - 1) (by omega) (by omega), show decide ((10 : Int) = 8) = false from rfl, cf, Bool.false_or, Bool.true_and]
      · subst h2; simp only [h3, decide_true, decide_false, ct, bs, show decide ((10 : Int) = 8) = false from rfl, cf, Bool.false_or, Bool.true_and, Bool.false_and]
    · simp [h1, h2]
theorem ref_leads_spec (N : Nat) (hN : 2000 < N) (c : DCell) (hS : c.Slots.length ≤ 1000) (hc : c.More.length ≤ 1000) : pantomimeref15_Leads_O N c = some (pick (fun _ v => hasB v) 0 c.Slots ++ pick (fun i v => !weakB c.Kind i && hasB v) 0 c.More) := by
  apply Sat.eq
  unfold pantomimeref15_Leads_O
  refine loop_inv (fun m i s => pantomimeref15_Leads_l6 N c m s (i : Int)) c.Slots.length (fun i s => s ++ pick (fun _ v => hasB v) i (c.Slots.drop i) = pick (fun _ v => hasB v) 0 c.Slots ∧ s.length ≤ i) _ ?_ ?_ N 0 [] (by omega) (by omega) ⟨by simp, by simp⟩
  · rintro m i s hi ⟨h1, h2⟩ k
    show Sat (pantomimeref15_Leads_l6 N c (m + 1) s i) _
    rw [List.drop_eq_getElem_cons hi, pick_cons] at h1
    rw [pantomimeref15_Leads_l6_s, lt_t (by omega), cond_true, getE_n hi, bs, ref_has_spec, bs]
    simp only [bs]
    cases hh : hasB c.Slots[i]
    all_goals
      simp only [hh, ct, cf, bs, List.nil_append] at h1 ⊢
      first
      | (unfold pantomimeref15_Leads_j11
         rw [r64 (by omega) (by omega)]
         exact k s ⟨h1, by omega⟩)
      | (rw [rF (by simp; omega)]
         unfold pantomimeref15_Leads_j11
         rw [r64 (by omega) (by omega)]
         exact k _ ⟨by rw [List.append_assoc]; exact h1, by simp; omega⟩)
  · rintro m s ⟨h1, h2⟩
    show Sat (pantomimeref15_Leads_l6 N c (m + 1) s _) _
    rw [List.drop_length] at h1
    have h1 : s = pick (fun _ v => hasB v) 0 c.Slots := by rw [← h1]; simp [pick]
    rw [pantomimeref15_Leads_l6_s, lt_f (by omega), cond_false, ← h1]
    unfold pantomimeref15_Leads_j4
    clear h1
    refine loop_inv (fun m i s => pantomimeref15_Leads_l23 N c m s (i : Int)) c.More.length (fun i t => t ++ pick (fun i v => !weakB c.Kind i && hasB v) i (c.More.drop i) = s ++ pick (fun i v => !weakB c.Kind i && hasB v) 0 c.More ∧ t.length ≤ 1000 + i) _ ?_ ?_ N 0 s (by omega) (by omega) ⟨by simp, by omega⟩
    · rintro m i s hi ⟨h1, h2⟩ k
      show Sat (pantomimeref15_Leads_l23 N c (m + 1) s i) _
      rw [List.drop_eq_getElem_cons hi, pick_cons] at h1
      rw [pantomimeref15_Leads_l23_s, lt_t (by omega), cond_true, getE_n hi, bs, ref_has_spec, bs, weak_spec _ _ _ (by omega)]
      simp only [bs]
      cases hh : hasB c.More[i] <;> cases hw : weakB c.Kind i
      all_goals
        simp only [hh, hw, Bool.and_true, Bool.and_false, nt, nf, ct, cf, bs, List.nil_append] at h1 ⊢
        first
        | (unfold pantomimeref15_Leads_j27
           rw [r64 (by omega) (by omega)]
           exact k s ⟨h1, by omega⟩)
        | (rw [rF (by simp; omega)]
           unfold pantomimeref15_Leads_j27
           rw [r64 (by omega) (by omega)]
           exact k _ ⟨by rw [List.append_assoc]; exact h1, by simp; omega⟩)
    · rintro m s ⟨h1, h2⟩
      show Sat (pantomimeref15_Leads_l23 N c (m + 1) s _) _
      rw [List.drop_length] at h1
      rw [pantomimeref15_Leads_l23_s, lt_f (by omega), cond_false]
      exact sat_some (by rw [← h1]; simp [pick])
theorem strong_weak (k : Int) (i : Nat) : strongB k i = !weakB k i := by
  unfold strongB weakB
  by_cases h8 : k = 8
  · subst h8; rfl
  · by_cases h10 : k = 10
    · subst h10
      have e0 : (i : Int).tmod 2 = (i : Int) % 2 := Int.tmod_eq_emod_of_nonneg (by omega)
      by_cases hi : (0 : Int) < i
      · have e1 : ((i : Int) - 1).tmod 4 = ((i : Int) - 1) % 4 := Int.tmod_eq_emod_of_nonneg (by omega)
        have e2 : (((i : Int) - 1) % 4).tmod 2 = (((i : Int) - 1) % 4) % 2 := Int.tmod_eq_emod_of_nonneg (by omega)
        rw [e0, e1, e2]
        by_cases h : (i : Int) % 2 = 0
        · have h2 : ¬ (((i : Int) - 1) % 4) % 2 = 0 := by omega
          rw [decide_eq_true h, decide_eq_false h2, decide_eq_true hi]; rfl
        · have h2 : (((i : Int) - 1) % 4) % 2 = 0 := by omega
          rw [decide_eq_false h, decide_eq_true h2, decide_eq_true hi]; rfl
      · have : i = 0 := by omega
        subst this; rfl
    · simp [h8, h10]
def leadsL (c : DCell) : List Int := pick (fun _ v => hasB v) 0 c.Slots ++ pick (fun i v => !weakB c.Kind i && hasB v) 0 c.More
theorem leads_prog (N : Nat) (hN : 2000 < N) (c : DCell) (hS : c.Slots.length ≤ 1000) (hc : c.More.length ≤ 1000) : cell_Leads_O N c = some (leadsL c) := by
  unfold cell_Leads_O leadsL
  rw [addresses_spec N hN true c hS hc, bs]
  have e1 : (fun (_ : Nat) (v : DValue) => (true == true) && hasB v) = fun _ v => hasB v := by funext i v; rfl
  have e2 : (fun (i : Nat) (v : DValue) => (strongB c.Kind i == true) && hasB v) = fun i v => !weakB c.Kind i && hasB v := by funext i v; rw [strong_weak]; cases weakB c.Kind i <;> rfl
  rw [e1, e2]
theorem leads_ref (N : Nat) (hN : 2000 < N) (c : DCell) (hS : c.Slots.length ≤ 1000) (hc : c.More.length ≤ 1000) : pantomimeref15_Leads_O N c = some (leadsL c) := ref_leads_spec N hN c hS hc
theorem leadsL_len (c : DCell) : (leadsL c).length ≤ c.Slots.length + c.More.length := by
  unfold leadsL
  have h1 := pick_len (fun _ v => hasB v) 0 c.Slots
  have h2 := pick_len (fun i v => !weakB c.Kind i && hasB v) 0 c.More
  rw [List.length_append]; omega
theorem pick_mem {f : Nat → DValue → Bool} {x : Int} : ∀ {i : Nat} {l : List DValue}, x ∈ pick f i l → ∃ v ∈ l, v.N = x
  | _, [], h => by cases h
  | i, v :: l, h => by
    rw [pick_cons, List.mem_append] at h
    rcases h with h | h
    · cases hf : f i v
      · rw [hf] at h; cases h
      · rw [hf] at h; exact ⟨v, by simp, (List.mem_singleton.1 h).symm⟩
    · obtain ⟨w, h1, h2⟩ := pick_mem h
      exact ⟨w, by simp [h1], h2⟩
theorem leadsL_mem {c : DCell} {x : Int} (h : x ∈ leadsL c) : ∃ v ∈ c.Slots ++ c.More, v.N = x := by
  unfold leadsL at h
  rcases List.mem_append.1 h with h | h
  · obtain ⟨v, h1, h2⟩ := pick_mem h; exact ⟨v, by simp [h1], h2⟩
  · obtain ⟨v, h1, h2⟩ := pick_mem h; exact ⟨v, by simp [h1], h2⟩
end Go.Proofs.YtmbaennilhdieaaGreat

/- Plain: cells at addresses, on both sides. -/
namespace Go.Proofs.YtmbaennilhdieaaGreat
open Go.RowKit

def zeroC : DCell := ⟨0, 0, 0, 0, [], []⟩
def cellAt (m : DMemory) (a : Int) : Option DCell := if a < 1 then none else if a % 2 = 1 then m.Young[((a - 1) / 2).toNat]? else m.Old[((a - 2) / 2).toNat]?
def hasM (m : DMemory) (a : Int) : Bool := (cellAt m a).isSome
def atM (m : DMemory) (a : Int) : DCell := (cellAt m a).getD zeroC
/-- lengths that the examples of the law admit -/
structure Small (m : DMemory) (roots : List DValue) : Prop where
  young : m.Young.length ≤ 600
  old : m.Old.length ≤ 600
  roots : roots.length ≤ 600
  cells : ∀ c ∈ m.Young ++ m.Old, c.Slots.length ≤ 600 ∧ c.More.length ≤ 600
theorem cellAt_mem {m : DMemory} {a : Int} {c : DCell} (h : cellAt m a = some c) : c ∈ m.Young ++ m.Old := by
  unfold cellAt at h
  split at h
  · cases h
  · split at h
    · exact List.mem_append_left _ (List.mem_of_getElem? h)
    · exact List.mem_append_right _ (List.mem_of_getElem? h)
theorem Small.at_ {m : DMemory} {roots : List DValue} (h : Small m roots) (a : Int) : (atM m a).Slots.length ≤ 600 ∧ (atM m a).More.length ≤ 600 := by
  unfold atM
  cases hc : cellAt m a with
  | none => exact ⟨by simp [zeroC], by simp [zeroC]⟩
  | some c => exact h.cells c (cellAt_mem hc)
theorem hasM_pos {m : DMemory} {a : Int} (h : hasM m a = true) : 0 < a := by
  unfold hasM cellAt at h
  split at h
  · cases h
  · omega
theorem hasM_le {m : DMemory} {roots : List DValue} (hs : Small m roots) {a : Int} (h : hasM m a = true) : a ≤ 1200 := by
  have h1 := hs.young; have h2 := hs.old
  unfold hasM cellAt at h
  split at h
  · cases h
  · split at h
    · have := (List.getElem?_eq_some_iff.1 (Option.isSome_iff_exists.1 h).choose_spec).1
      omega
    · have := (List.getElem?_eq_some_iff.1 (Option.isSome_iff_exists.1 h).choose_spec).1
      omega
theorem tdiv2 {a : Int} (h : 0 ≤ a) : a.tdiv 2 = a / 2 := Int.tdiv_eq_ediv_of_nonneg h
theorem tmod2 {a : Int} (h : 0 ≤ a) : a.tmod 2 = a % 2 := Int.tmod_eq_emod_of_nonneg h
theorem isSome_lt {α : Type} (l : List α) (i : Nat) : (l[i]?).isSome = decide ((i : Int) < (l.length : Int)) := by
  by_cases h : i < l.length
  · rw [List.getElem?_eq_getElem h, decide_eq_true (by omega)]; rfl
  · rw [List.getElem?_eq_none (by omega), decide_eq_false (by omega)]; rfl
/-- which row, and which place in it -/
theorem addr_cases (m : DMemory) (a : Int) : (a < 1 ∧ cellAt m a = none) ∨ (∃ k : Nat, a = 2 * (k : Int) + 1 ∧ cellAt m a = m.Young[k]?) ∨ (∃ k : Nat, a = 2 * (k : Int) + 2 ∧ cellAt m a = m.Old[k]?) := by
  by_cases h : a < 1
  · exact .inl ⟨h, by unfold cellAt; rw [if_pos h]⟩
  · by_cases h2 : a % 2 = 1
    · refine .inr (.inl ⟨((a - 1) / 2).toNat, by omega, ?_⟩)
      unfold cellAt; rw [if_neg h, if_pos h2]
    · refine .inr (.inr ⟨((a - 2) / 2).toNat, by omega, ?_⟩)
      unfold cellAt; rw [if_neg h, if_neg h2]
theorem tdiv_in64 {a : Int} (h : in64 a) : -4611686018427387904 ≤ a.tdiv 2 ∧ a.tdiv 2 ≤ 4611686018427387904 := by
  unfold in64 at h
  by_cases h0 : 0 ≤ a
  · rw [tdiv2 h0]; omega
  · have h1 : (-a).tdiv 2 = -(a.tdiv 2) := Int.neg_tdiv a 2
    rw [tdiv2 (by omega)] at h1
    omega
theorem place_spec (N : Nat) (m : DMemory) (a : Int) (h : in64 a) : Sat (reach_place_O N m a) fun r => r.2.2 = hasM m a ∧ (hasM m a = true → getE r.1 r.2.1 = cellAt m a) := by
  have hd := tdiv_in64 h
  unfold reach_place_O
  rw [r64 (by omega) (by omega)]
  unfold reach_place_j5 hasM
  rcases addr_cases m a with ⟨h1, h2⟩ | ⟨k, h1, h2⟩ | ⟨k, h1, h2⟩
  · rw [h2]
    refine sat_dec (fun _ => ?_) fun _ => ?_
    · rw [r64 (by omega) (by omega), r64 (by omega) (by omega), lt_f (a := 0) (b := a) (by omega), cf, bs]
      exact sat_some ⟨rfl, fun h => by cases h⟩
    · rw [lt_f (a := 0) (b := a) (by omega), cf, bs]
      exact sat_some ⟨rfl, fun h => by cases h⟩
  · subst h1
    rw [h2, tmod2 (by omega), tdiv2 (by omega), eq_f (by omega), cf, lt_t (by omega), ct, bs, show (2 * (k : Int) + 1) / 2 = k by omega]
    exact sat_some ⟨(isSome_lt _ _).symm, fun _ => getE_nat _ _⟩
  · subst h1
    rw [h2, tmod2 (by omega), tdiv2 (by omega), eq_t (by omega), ct, lt_t (by omega), ct, bs, show (2 * (k : Int) + 2) / 2 - 1 = k by omega]
    rw [r64 (by omega) (by omega), r64 (by omega) (by omega)]
    exact sat_some ⟨(isSome_lt _ _).symm, fun _ => getE_nat _ _⟩
theorem has_prog (N : Nat) (m : DMemory) (a : Int) (h : in64 a) : reach_Has_O N m a = some (hasM m a) := by
  obtain ⟨r, h1, h2, -⟩ := place_spec N m a h
  unfold reach_Has_O
  rw [h1, bs, h2]
theorem copy_spec (N : Nat) (c : DCell) (h : c.Slots.length ≤ 600 ∧ c.More.length ≤ 600) : cell_Copy_O N c = some c := by
  unfold cell_Copy_O slices_Clone_O
  rw [rF (by simp; omega), bs, rF (by simp; omega), bs]
  rfl
theorem at_prog (N : Nat) {m : DMemory} {roots : List DValue} (hs : Small m roots) (a : Int) (h : in64 a) : reach_At_O N m a = some (atM m a) := by
  obtain ⟨r, h1, h2, h3⟩ := place_spec N m a h
  unfold reach_At_O atM
  rw [h1, bs, h2]
  unfold hasM at *
  cases hc : cellAt m a with
  | none => rfl
  | some c =>
    have h4 := h3 (by rw [hc]; rfl)
    rw [hc] at h4
    have h5 := copy_spec N c (hs.cells c (cellAt_mem hc))
    simp only [Option.isSome_some, nt, cf, h4, bs, h5]
    rfl
theorem has_ref (N : Nat) (m : DMemory) (a : Int) (h : in64 a) : pantomimeref19_Has_O N m a = some (hasM m a) := by
  unfold in64 at h
  unfold pantomimeref19_Has_O hasM
  rcases addr_cases m a with ⟨h1, h2⟩ | ⟨k, h1, h2⟩ | ⟨k, h1, h2⟩
  · rw [h2, lt_t h1]; rfl
  · subst h1
    rw [h2, lt_f (by omega), cf, tmod2 (by omega), eq_t (by omega), ct, tdiv2 (by omega), show (2 * (k : Int) + 1 - 1) / 2 = k by omega, isSome_lt]
    rw [req_t (by unfold in64; omega), req_t (by unfold in64; omega)]
  · subst h1
    rw [h2, lt_f (by omega), cf, tmod2 (by omega), eq_f (by omega), cf, tdiv2 (by omega), show (2 * (k : Int) + 2 - 2) / 2 = k by omega, isSome_lt]
    rw [req_t (by unfold in64; omega), req_t (by unfold in64; omega)]
theorem at_ref (N : Nat) (m : DMemory) (a : Int) (h : in64 a) : pantomimeref19_At_O N m a = some (atM m a) := by
  have hh := has_ref N m a h
  unfold in64 at h
  unfold pantomimeref19_At_O atM
  rw [hh, bs]
  unfold hasM
  rcases addr_cases m a with ⟨h1, h2⟩ | ⟨k, h1, h2⟩ | ⟨k, h1, h2⟩
  · rw [h2]; rfl
  · cases hc : m.Young[k]? with
    | none => rw [h2, hc]; rfl
    | some c =>
      rw [h2, hc]
      subst h1
      simp only [Option.isSome_some, nt, cf]
      rw [tmod2 (by omega), eq_t (by omega), ct, tdiv2 (by omega), show (2 * (k : Int) + 1 - 1) / 2 = k by omega, getE_nat, hc, bs]
      rw [req_t (by unfold in64; omega), req_t (by unfold in64; omega)]
      rfl
  · cases hc : m.Old[k]? with
    | none => rw [h2, hc]; rfl
    | some c =>
      rw [h2, hc]
      subst h1
      simp only [Option.isSome_some, nt, cf]
      rw [tmod2 (by omega), eq_f (by omega), cf, tdiv2 (by omega), show (2 * (k : Int) + 2 - 2) / 2 = k by omega, getE_nat, hc, bs]
      rw [req_t (by unfold in64; omega), req_t (by unfold in64; omega)]
      rfl
end Go.Proofs.YtmbaennilhdieaaGreat

/- Plain: a valid cell, on both sides. -/
namespace Go.Proofs.YtmbaennilhdieaaGreat
open Go.RowKit

theorem has_props (N : Nat) (k : Int) : cell_has_O N k = pantomimeref15_Props_O N k := by
  unfold cell_has_O pantomimeref15_Props_O cell_has_j1
  by_cases h1 : k = 1
  · subst h1; rfl
  by_cases h2 : k = 2
  · subst h2; rfl
  by_cases h3 : k = 3
  · subst h3; rfl
  by_cases h6 : k = 6
  · subst h6; rfl
  by_cases h8 : k = 8
  · subst h8; rfl
  by_cases h9 : k = 9
  · subst h9; rfl
  by_cases h10 : k = 10
  · subst h10; rfl
  rw [eq_f h1, eq_f h2, eq_f h3, eq_f h6, eq_f h8, eq_f h9, eq_f h10]; rfl
theorem slots_eq (N : Nat) (c : DCell) : cell_slotsRight_O N c = pantomimeref15_slots_O N c := by
  unfold cell_slotsRight_O pantomimeref15_slots_O
  rw [has_props]; rfl
theorem may_eq (N : Nat) (v : DValue) : cell_may_O N v = pantomimeref15_May_O N v := by
  unfold cell_may_O pantomimeref15_May_O cell_may_j9
  by_cases h5 : v.Kind = 5
  · rw [h5]; rfl
  rw [eq_f h5]
  simp only [cf]
  by_cases hr : v.Kind < 0 ∨ 9 < v.Kind
  · have h2 : v.Kind ≠ 2 := by omega
    have h3 : v.Kind ≠ 3 := by omega
    have h6 : v.Kind ≠ 6 := by omega
    have h7 : v.Kind ≠ 7 := by omega
    have h9 : v.Kind ≠ 9 := by omega
    have e1 : ((bif decide (v.Kind < 0) then (some true) else (some (decide (9 < v.Kind)))) : Option Bool) = some true := by
      rcases hr with h | h
      · rw [lt_t h]; rfl
      · rw [lt_t (a := 9) h]; cases decide (v.Kind < 0) <;> rfl
    rw [e1, bs, ct, eq_f h2, eq_f h3, eq_f h6, eq_f h7, eq_f h9]
    simp only [cf]
    have e2 : (((bif decide (v.N = 0) then (some (decide (0 ≤ v.Kind))) else (some false)).bind fun b14 => (bif b14 then (some (decide (v.Kind ≤ 9))) else (some false)).bind fun b15 => some b15) : Option Bool) = some false := by
      cases decide (v.N = 0)
      · rfl
      · rcases hr with h | h
        · rw [le_f (a := 0) (b := v.Kind) (by omega)]; rfl
        · rw [le_f (a := v.Kind) (b := 9) (by omega)]; cases decide (0 ≤ v.Kind) <;> rfl
    rw [e2]
    cases s : (v.S.toList == (⟨#[]⟩ : ByteArray).toList) <;> rfl
  · have e1 : ((bif decide (v.Kind < 0) then (some true) else (some (decide (9 < v.Kind)))) : Option Bool) = some false := by
      rw [lt_f (a := v.Kind) (b := 0) (by omega), lt_f (a := 9) (b := v.Kind) (by omega)]; rfl
    rw [e1, bs, cf]
    cases hs : (v.S.toList == (⟨#[]⟩ : ByteArray).toList)
    · rfl
    · simp only [nt, cf]
      by_cases h2 : v.Kind = 2
      · rw [h2]; rfl
      rw [eq_f h2]; simp only [cf]
      by_cases h3 : v.Kind = 3
      · rw [h3]; rfl
      rw [eq_f h3]; simp only [cf]
      by_cases h6 : v.Kind = 6
      · rw [h6]; rfl
      rw [eq_f h6]; simp only [cf]
      by_cases h7 : v.Kind = 7
      · rw [h7]; rfl
      rw [eq_f h7]; simp only [cf]
      by_cases h9 : v.Kind = 9
      · rw [h9]; rfl
      rw [eq_f h9, le_t (a := 0) (by omega), le_t (a := v.Kind) (by omega)]
      cases decide (v.N = 0) <;> rfl
theorem may_some (N : Nat) (v : DValue) : ∃ b, pantomimeref15_May_O N v = some b := by
  unfold pantomimeref15_May_O
  cases decide (v.Kind < 0) <;> cases decide (9 < v.Kind) <;> cases decide (v.Kind = 5) <;> cases decide (v.N = 0) <;> cases (v.S.toList == (⟨#[]⟩ : ByteArray).toList) <;> cases decide (v.Kind = 2) <;> cases decide (v.Kind = 3) <;> cases decide ((-9007199254740992) ≤ v.N) <;> cases decide (v.Kind = 6) <;> cases decide (v.Kind = 7) <;> cases decide (v.Kind = 9) <;> exact ⟨_, rfl⟩
/-- entries of a fixed size: by pieces, and by places -/
theorem entries_loop (N : Nat) (k : Nat) (hk : k = 2 ∨ k = 4) (l : List DValue) (hl : l.length ≤ 1000) : ∀ (m i : Nat), l.length < m + i → i ≤ l.length → (l.length - i) % k = 0 → ∃ b, pantomimeref15_entries_l5 N (k : Int) l m (i : Int) = some b ∧
    slices_Chunk_l4 N (liftR (fun x st => cell_entriesRight_b9 N (k : Int) x st)) l (k : Int) m (i : Int) (none, ()) = some (bif b then (none, ()) else (some .ret, ()))
  | 0, i, h, h2, _ => by omega
  | m + 1, i, h, h2, h3 => by
    by_cases hi : i < l.length
    · have hik : i + k ≤ l.length := by
        rcases hk with rfl | rfl <;> omega
      have hmin : (min (k : Int) (((l.drop (i : Int).toNat).take (l.length - (i : Int).toNat)).length : Int)) = k := by
        rw [List.length_take, List.length_drop, Int.toNat_natCast]; omega
      have hto : ((i : Int) + (k : Int)).toNat = i + k := by omega
      have hx : ∀ j, j < k → getE ((l.drop i).take k) (j : Int) = l[i + j]? := fun j hj => by
        rw [getE_nat, List.getElem?_take, if_pos hj, List.getElem?_drop]
      have hk0 := hx 0 (by omega)
      have hk1 := hx 1 (by omega)
      rw [List.getElem?_eq_getElem (by omega)] at hk0 hk1
      have hl0 : getE l (i : Int) = some l[i] := getE_n hi
      have hl1 : getE l ((i : Int) + 1) = some (l[i + 1]'(by omega)) := by
        have := getE_n (xs := l) (i := i + 1) (by omega)
        simpa using this
      obtain ⟨b, hb1, hb2⟩ := entries_loop N k hk l hl m (i + k) (by omega) hik (by rcases hk with rfl | rfl <;> omega)
      simp only [Int.natCast_add] at hb1 hb2
      have fin : ∀ b', (bif b' then some false else req (in64 ((i : Int) + (k : Int))) (pantomimeref15_entries_l5 N (k : Int) l m ((i : Int) + (k : Int)))) = some (bif b' then false else b) := fun b' => by
        cases b'
        · rw [cf, r64 (by omega) (by omega), hb1]; rfl
        · rfl
      have fin2 : ∀ b' : Bool, ((bif b' then (some (some Exit.ret, ())) else (some (none, ())) : Option (Option Exit × Unit)).map fun r => (r.1.isNone, r)) = some (!b', (bif b' then some Exit.ret else none, ())) := fun b' => by cases b' <;> rfl
      have goal : ∀ b', ((some (!b', ((bif b' then some Exit.ret else none : Option Exit), ())) : Option (Bool × (Option Exit × Unit))).bind fun y14 => bif !y14.1 then (some y14.2) else (req (in64 ((i : Int) + (k : Int))) ((slices_Chunk_l4 N (liftR (fun x st => cell_entriesRight_b9 N (k : Int) x st)) l (k : Int) m) ((i : Int) + (k : Int)) y14.2))) = some (bif (bif b' then false else b) then (none, ()) else (some .ret, ())) := fun b' => by
        cases b'
        · rw [bs]
          simp only [nf, nt, cf]
          rw [r64 (by omega) (by omega)]
          exact hb2
        · rfl
      have lift : ∀ (x : List DValue) (b' : Bool), cell_entriesRight_b9 N (k : Int) x () = (bif b' then (some (some Exit.ret, ())) else (some (none, ()))) → liftR (fun x st => cell_entriesRight_b9 N (k : Int) x st) x (none, ()) = some (!b', (bif b' then some Exit.ret else none, ())) := fun x b' hb => by
        unfold liftR
        simp only [hb]
        exact fin2 b'
      have key : ∃ b', ((getE l (i : Int)).bind fun x8 => (bif !decide (x8.Kind = 7) then (some true) else (req (in64 ((i : Int) + 1)) ((getE l ((i : Int) + 1)).bind fun x11 => some (decide (x11.Kind = 8))))).bind fun b9 => bif b9 then (some false) else ((bif decide ((k : Int) = 4) then (req (in64 ((i : Int) + 2)) ((getE l ((i : Int) + 2)).bind fun x15 => (pantomimeref15_none_O N x15 7).bind fun y16 => (bif !y16 then (some true) else (req (in64 ((i : Int) + 3)) ((getE l ((i : Int) + 3)).bind fun x19 => (pantomimeref15_num_O N x19 0 9007199254740992).bind fun y20 => some (!y20)))).bind fun b17 => some b17)) else (some false)).bind fun b13 => bif b13 then (some false) else (req (in64 ((i : Int) + (k : Int))) ((pantomimeref15_entries_l5 N (k : Int) l m) ((i : Int) + (k : Int)))))) = some (bif b' then false else b) ∧ cell_entriesRight_b9 N (k : Int) ((l.drop i).take k) () = (bif b' then (some (some Exit.ret, ())) else (some (none, ()))) := by
        unfold cell_entriesRight_b9
        simp only [Int.cast_ofNat_Int, Int.natCast_zero, Int.natCast_one] at hk0 hk1
        rw [hl0, bs, r64 (a := (i : Int) + 1) (by omega) (by omega), hl1, bs]
        have hk0' : getE ((l.drop i).take k) 0 = some l[i] := hk0
        have hk1' : getE ((l.drop i).take k) 1 = some (l[i + 1]'(by omega)) := hk1
        simp only [hk0', bs, hk1']
        cases h7 : (!decide (l[i].Kind = 7))
        · simp only [cf, bs]
          cases h8 : decide ((l[i + 1]'(by omega)).Kind = 8)
          · simp only [cf]
            rcases hk with rfl | rfl
            · simp only [show decide (((2 : Nat) : Int) = 4) = false from rfl, cf, bs]
              have f := fin false
              rw [cf] at f
              refine ⟨false, ?_, rfl⟩
              exact f
            · have hk2 := hx 2 (by omega)
              have hk3 := hx 3 (by omega)
              rw [List.getElem?_eq_getElem (by omega)] at hk2 hk3
              have hk2' : getE ((l.drop i).take 4) 2 = some (l[i + 2]'(by omega)) := hk2
              have hk3' : getE ((l.drop i).take 4) 3 = some (l[i + 3]'(by omega)) := hk3
              have hl2 : getE l ((i : Int) + 2) = some (l[i + 2]'(by omega)) := by
                have := getE_n (xs := l) (i := i + 2) (by omega)
                simpa using this
              have hl3 : getE l ((i : Int) + 3) = some (l[i + 3]'(by omega)) := by
                have := getE_n (xs := l) (i := i + 3) (by omega)
                simpa using this
              simp only [show decide (((4 : Nat) : Int) = 4) = true from rfl, ct]
              rw [r64 (a := (i : Int) + 2) (by omega) (by omega), hl2, bs, hk2', bs, r64 (a := (i : Int) + 3) (by omega) (by omega), hl3, bs, hk3']
              have en : ∀ v, cell_orNone_O N v 7 = pantomimeref15_none_O N v 7 := fun v => rfl
              have em : ∀ v, cell_number_O N v 0 9007199254740992 = pantomimeref15_num_O N v 0 9007199254740992 := fun v => rfl
              have hn : ∃ b1, pantomimeref15_none_O N (l[i + 2]'(by omega)) 7 = some b1 := by unfold pantomimeref15_none_O; cases decide ((l[i + 2]'(by omega)).Kind = 0) <;> exact ⟨_, rfl⟩
              have hm : ∃ b1, pantomimeref15_num_O N (l[i + 3]'(by omega)) 0 9007199254740992 = some b1 := by unfold pantomimeref15_num_O; cases decide ((l[i + 3]'(by omega)).Kind = 3) <;> cases decide (0 ≤ (l[i + 3]'(by omega)).N) <;> exact ⟨_, rfl⟩
              obtain ⟨b1, hn⟩ := hn
              obtain ⟨b2, hm⟩ := hm
              simp only [bs, en, em, hn, hm]
              cases b1
              · simp only [nf, ct, bs]
                exact ⟨true, rfl, rfl⟩
              · simp only [nt, cf, bs]
                exact ⟨!b2, fin (!b2), by cases b2 <;> rfl⟩
          · exact ⟨true, rfl, rfl⟩
        · exact ⟨true, rfl, rfl⟩
      obtain ⟨b', e1, e2⟩ := key
      refine ⟨bif b' then false else b, ?_, ?_⟩
      · rw [pantomimeref15_entries_l5_s, lt_t (by omega), ct]
        exact e1
      · rw [slices_Chunk_l4_s, lt_t (by omega), ct, hmin, req_t (show (0 : Int) ≤ (i : Int) ∧ (i : Int).toNat ≤ l.length ∧ l.length ≤ l.length from ⟨by omega, by omega, Nat.le_refl _⟩), r64 (a := (i : Int) + (k : Int)) (by omega) (by omega), r64 (a := (i : Int) + (k : Int)) (by omega) (by omega)]
        rw [req_t (show (0 : Int) ≤ (i : Int) ∧ (0 : Int) ≤ (i : Int) + (k : Int) ∧ (i : Int).toNat ≤ ((i : Int) + (k : Int)).toNat ∧ ((i : Int) + (k : Int)).toNat ≤ l.length from ⟨by omega, by omega, by omega, by omega⟩), hto, Int.toNat_natCast, show i + k - i = k by omega, lift _ b' e2]
        exact goal b'
    · rw [pantomimeref15_entries_l5_s, slices_Chunk_l4_s, lt_f (by omega), cf, cf]
      exact ⟨true, rfl, rfl⟩
theorem entries_eq (N : Nat) (hN : 2000 < N) (k : Nat) (hk : k = 2 ∨ k = 4) (l : List DValue) (hl : l.length ≤ 1000) : ∃ b, cell_entriesRight_O N l (k : Int) = some b ∧ pantomimeref15_entries_O N l (k : Int) = some b ∧ (b = true → l.length % k = 0) := by
  unfold cell_entriesRight_O pantomimeref15_entries_O
  have hk0 : (k : Int) ≠ 0 := by rcases hk with rfl | rfl <;> decide
  rw [req_t hk0, req_t hk0]
  have ht : (l.length : Int).tmod (k : Int) = ((l.length % k : Nat) : Int) := by
    rw [Int.tmod_eq_emod_of_nonneg (by omega)]; rfl
  rw [ht]
  by_cases h : l.length % k = 0
  · rw [eq_t (by omega)]
    obtain ⟨b, h1, h2⟩ := entries_loop N k hk l hl N 0 (by omega) (by omega) (by simpa using h)
    have e : slices_Chunk_191_O N l (k : Int) = some () := by
      unfold slices_Chunk_191_O; rw [lt_f (by rcases hk with rfl | rfl <;> omega), cf]
    unfold slices_Chunk_O
    simp only [nt, cf, e, bs]
    have h1' : pantomimeref15_entries_l5 N (k : Int) l N 0 = some b := h1
    have h2' : slices_Chunk_l4 N (liftR (fun x st => cell_entriesRight_b9 N (k : Int) x st)) l (k : Int) N 0 (none, ()) = some (bif b then (none, ()) else (some .ret, ())) := h2
    rw [h1', h2', bs]
    exact ⟨b, by cases b <;> rfl, rfl, fun _ => h⟩
  · rw [eq_f (by omega)]
    exact ⟨false, rfl, rfl, fun h => by cases h⟩
end Go.Proofs.YtmbaennilhdieaaGreat

/- Plain: valid cells and weak maps, on both sides. -/
namespace Go.Proofs.YtmbaennilhdieaaGreat
open Go.RowKit

theorem more_eq (N : Nat) (hN : 2000 < N) (c : DCell) (hc : c.More.length ≤ 1000) : cell_moreRight_O N c.Kind c.More = pantomimeref15_more_O N c := by
  obtain ⟨b2, h2, h2', -⟩ := entries_eq N hN 2 (.inl rfl) c.More hc
  obtain ⟨b4, h4, h4', -⟩ := entries_eq N hN 4 (.inr rfl) ((c.More.drop ((1 : Int).toNat)).take (c.More.length - (1 : Int).toNat)) (by rw [List.length_take, List.length_drop]; omega)
  have e2 : cell_entriesRight_O N c.More 2 = pantomimeref15_entries_O N c.More 2 := h2.trans h2'.symm
  have e4 : cell_entriesRight_O N ((c.More.drop ((1 : Int).toNat)).take (c.More.length - (1 : Int).toNat)) 4 = pantomimeref15_entries_O N ((c.More.drop ((1 : Int).toNat)).take (c.More.length - (1 : Int).toNat)) 4 := h4.trans h4'.symm
  unfold cell_moreRight_O pantomimeref15_more_O cell_moreRight_j4 pantomimeref15_more_j6
  rw [e2, e4]
  rfl
theorem may_lift (N : Nat) (c : DCell) (b : Bool) (v : DValue) : ∃ y, pantomimeref15_May_O N v = some y ∧ liftR (fun x st => cell_Right_b14 N c x st) (b, v) (none, ()) = some (y, (bif y then none else some Exit.ret, ())) := by
  obtain ⟨y, hy⟩ := may_some N v
  refine ⟨y, hy, ?_⟩
  unfold liftR cell_Right_b14
  simp only [may_eq, hy, bs]
  cases y <;> rfl
theorem right_more (N : Nat) (c : DCell) (hc : c.More.length ≤ 1000) : ∀ (m i : Nat), c.More.length < m + i → i ≤ c.More.length → ∃ b, pantomimeref15_Right_l20 N c m (i : Int) = (bif b then pantomimeref15_Right_j19 N c else some false) ∧
    cell_all_c1_l15 N (liftR (fun x st => cell_Right_b14 N c x st)) c m (i : Int) (none, ()) = some (bif b then none else some Exit.ret, ())
  | 0, i, h, h2 => by omega
  | m + 1, i, h, h2 => by
    rw [pantomimeref15_Right_l20_s, cell_all_c1_l15_s]
    by_cases hi : i < c.More.length
    · rw [lt_t (by omega), ct, ct, getE_n hi, bs, bs]
      have hs : (bif !decide (c.Kind = 8) then ((bif !decide (c.Kind = 10) then (some true) else (some (decide ((i : Int).tmod 2 = 0)))).bind fun b22 => some b22) else (some false)) = some (strongB c.Kind i) := by
        unfold strongB; cases decide (c.Kind = 8) <;> cases decide (c.Kind = 10) <;> rfl
      obtain ⟨y, h3, h4⟩ := may_lift N c (strongB c.Kind i) c.More[i]
      rw [hs, bs, h3, h4, bs, bs]
      cases y
      · simp only [nf, nt, ct, cf]
        exact ⟨false, cf.symm, by rw [cf]⟩
      · obtain ⟨b, h5, h6⟩ := right_more N c hc m (i + 1) (by omega) hi
        simp only [Int.natCast_add, Int.cast_ofNat_Int] at h5 h6
        simp only [nt, cf, ct]
        rw [r64 (by omega) (by omega), r64 (by omega) (by omega)]
        exact ⟨b, h5, h6⟩
    · rw [lt_f (by omega), cf, cf]
      exact ⟨true, ct.symm, by rw [ct]⟩
theorem right_slots (N : Nat) (hN : 2000 < N) (c : DCell) (hS : c.Slots.length ≤ 1000) (hc : c.More.length ≤ 1000) : ∀ (m i : Nat), c.Slots.length < m + i → i ≤ c.Slots.length → ∃ b, pantomimeref15_Right_l12 N c m (i : Int) = (bif b then pantomimeref15_Right_j19 N c else some false) ∧
    cell_all_c1_l6 N (liftR (fun x st => cell_Right_b14 N c x st)) c m (i : Int) (none, ()) = some (bif b then none else some Exit.ret, ())
  | 0, i, h, h2 => by omega
  | m + 1, i, h, h2 => by
    rw [pantomimeref15_Right_l12_s, cell_all_c1_l6_s]
    by_cases hi : i < c.Slots.length
    · rw [lt_t (by omega), ct, ct, getE_n hi, bs, bs]
      obtain ⟨y, h3, h4⟩ := may_lift N c true c.Slots[i]
      rw [h3, h4, bs, bs]
      cases y
      · simp only [nf, nt, ct, cf]
        exact ⟨false, cf.symm, by rw [cf]⟩
      · obtain ⟨b, h5, h6⟩ := right_slots N hN c hS hc m (i + 1) (by omega) hi
        simp only [Int.natCast_add, Int.cast_ofNat_Int] at h5 h6
        simp only [nt, cf, ct]
        rw [r64 (by omega) (by omega), r64 (by omega) (by omega)]
        exact ⟨b, h5, h6⟩
    · rw [lt_f (by omega), cf, cf]
      exact right_more N c hc N 0 (by omega) (by omega)
theorem right_eq (N : Nat) (hN : 2000 < N) (c : DCell) (hS : c.Slots.length ≤ 1000) (hc : c.More.length ≤ 1000) : cell_Right_O N c = pantomimeref15_Right_O N c := by
  unfold cell_Right_O pantomimeref15_Right_O cell_all_c1_O
  have hAge : ((bif !decide (c.Age = 0) then (some (!decide (c.Age = 1))) else (some false)).bind fun b10 => some b10) = (some (decide (c.Age < 0) || decide (1 < c.Age)) : Option Bool) := by
    by_cases h0 : c.Age = 0
    · rw [h0]; rfl
    · by_cases h1 : c.Age = 1
      · rw [h1]; rfl
      · rw [eq_f h0, eq_f h1]
        by_cases h2 : c.Age < 0
        · rw [lt_t h2]; rfl
        · rw [lt_t (a := 1) (b := c.Age) (by omega), lt_f (a := c.Age) (by omega)]; rfl
  obtain ⟨b, h1, h2⟩ := right_slots N hN c hS hc N 0 (by omega) (by omega)
  have h1' : pantomimeref15_Right_l12 N c N 0 = (bif b then pantomimeref15_Right_j19 N c else some false) := h1
  have h2' : cell_all_c1_l6 N (liftR (fun x st => cell_Right_b14 N c x st)) c N 0 (none, ()) = some (bif b then none else some Exit.ret, ()) := h2
  have e : cell_all_O N c = some () := rfl
  rw [hAge, h1', h2', e]
  have tail : ((some ()).bind fun (y12 : Unit) => (some ((bif b then none else some Exit.ret : Option Exit), ())).bind fun y15 => caseX y15.1 ((cell_slotsRight_O N c).bind fun y19 => (bif y19 then ((cell_moreRight_O N c.Kind c.More).bind fun y21 => some y21) else (some false)).bind fun b20 => some b20) (some false) (fun _ => none)) = (bif b then pantomimeref15_Right_j19 N c else some false) := by
    cases b
    · rfl
    · rw [slots_eq, more_eq N hN c hc]; rfl
  rw [tail]
  cases decide (c.Kind < 1) <;> cases decide (11 < c.Kind) <;> cases decide (c.Shape < 0) <;> cases decide (c.Flags < 0) <;> cases decide (63 < c.Flags) <;> cases decide (c.Age < 0) <;> cases decide (1 < c.Age) <;> rfl
theorem opt_bool {m : Option Bool} {x : Bool} : m = some x → (m.bind fun b => some b) = some x := fun h => by rw [h]; rfl
/-- a valid cell has an answer; a weak map that is valid holds pairs -/
theorem right_some (N : Nat) (hN : 2000 < N) (c : DCell) (hS : c.Slots.length ≤ 1000) (hc : c.More.length ≤ 1000) (h8 : c.Kind = 8) : ∃ b, pantomimeref15_Right_O N c = some b ∧ (b = true → c.More.length % 2 = 0) := by
  obtain ⟨b1, g1, -⟩ := right_slots N hN c hS hc N 0 (by omega) (by omega)
  have g1' : pantomimeref15_Right_l12 N c N 0 = (bif b1 then pantomimeref15_Right_j19 N c else some false) := g1
  obtain ⟨b2, -, h2, h3⟩ := entries_eq N hN 2 (.inl rfl) c.More hc
  have hm : pantomimeref15_more_O N c = some b2 := by
    unfold pantomimeref15_more_O pantomimeref15_more_j6
    rw [h8, lt_f (by omega)]
    show ((pantomimeref15_entries_O N c.More 2).bind fun y37 => some y37) = _
    exact opt_bool h2
  have hs : ∃ b3, pantomimeref15_slots_O N c = some b3 := by
    unfold pantomimeref15_slots_O
    rw [h8]
    have : pantomimeref15_Props_O N 8 = some true := rfl
    rw [this, bs, ct, bs, ct]
    by_cases hl : 1 ≤ (c.Slots.length : Int)
    · rw [le_t hl, ct, bs, getE_at (xs := c.Slots) (i := 0) (by omega) (by omega), bs]
      cases decide ((c.Slots.length : Int) ≤ 1025)
      · exact ⟨_, rfl⟩
      · cases decide (c.Slots[(0 : Int).toNat].Kind = 1) <;> exact ⟨_, rfl⟩
    · rw [le_f (by omega)]; exact ⟨_, rfl⟩
  obtain ⟨b3, hs⟩ := hs
  have hj : pantomimeref15_Right_j19 N c = some (b3 && b2) := by
    unfold pantomimeref15_Right_j19
    rw [hs, hm]
    cases b3 <;> rfl
  unfold pantomimeref15_Right_O
  rw [g1', hj]
  have fin : ∃ b, ((bif b1 then some (b3 && b2) else some false) : Option Bool) = some b ∧ (b = true → c.More.length % 2 = 0) := by
    cases b1
    · exact ⟨false, rfl, fun h => by cases h⟩
    · exact ⟨b3 && b2, rfl, fun h => h3 (by cases b3 <;> cases b2 <;> first | rfl | cases h)⟩
  obtain ⟨b, e1, e2⟩ := fin
  rw [e1]
  have ff : ∃ b', (some false : Option Bool) = some b' ∧ (b' = true → c.More.length % 2 = 0) := ⟨false, rfl, fun h => by cases h⟩
  cases decide (c.Kind < 1) <;> cases decide (11 < c.Kind) <;> cases decide (c.Shape < 0) <;> cases decide (c.Flags < 0) <;> cases decide (63 < c.Flags) <;> cases decide (c.Age < 0) <;> cases decide (1 < c.Age) <;> first | exact ff | exact ⟨b, rfl, e2⟩
/-- whether a cell is a valid weak map -/
def isWM (N : Nat) (c : DCell) : Bool := decide (c.Kind = 8) && (pantomimeref15_Right_O N c).getD false
theorem is_ref (N : Nat) (hN : 2000 < N) (c : DCell) (hS : c.Slots.length ≤ 1000) (hc : c.More.length ≤ 1000) : pantomimeref17_Is_O N c = some (isWM N c) ∧ weak_is_O N c = some (isWM N c) ∧ (isWM N c = true → c.More.length % 2 = 0) := by
  unfold pantomimeref17_Is_O weak_is_O isWM
  rw [right_eq N hN c hS hc]
  by_cases h8 : c.Kind = 8
  · obtain ⟨b, h1, h2⟩ := right_some N hN c hS hc h8
    rw [h1, h8]
    exact ⟨rfl, rfl, h2⟩
  · rw [eq_f h8]
    exact ⟨rfl, rfl, fun h => by cases h⟩
end Go.Proofs.YtmbaennilhdieaaGreat

/- Plain: what a weak map opens, on both sides. -/
namespace Go.Proofs.YtmbaennilhdieaaGreat
open Go.RowKit

theorem index_spec (N : Nat) (x : Int) (l : List Int) (hl : l.length ≤ 5000) : ∀ (m i : Nat), l.length < m + i → i ≤ l.length → Sat (slices_Index_l3 N x l m (i : Int)) fun r => decide (0 ≤ r) = decide (x ∈ l.drop i)
  | 0, i, h, h2 => by omega
  | m + 1, i, h, h2 => by
    rw [slices_Index_l3_s]
    by_cases hi : i < l.length
    · rw [lt_t (by omega), ct, getE_n hi, bs, List.drop_eq_getElem_cons hi]
      refine sat_dec (fun e => ?_) fun e => ?_
      · exact sat_some (by rw [decide_eq_true (by omega), decide_eq_true]; rw [e]; exact List.mem_cons_self ..)
      · rw [r64 (by omega) (by omega)]
        have := index_spec N x l hl m (i + 1) (by omega) hi
        simp only [Int.natCast_add, Int.cast_ofNat_Int] at this
        refine this.mono fun r hr => ?_
        rw [hr]
        have : (x ∈ l[i] :: l.drop (i + 1)) ↔ x ∈ l.drop (i + 1) := ⟨fun h => (List.mem_cons.1 h).resolve_left (fun e2 => e e2), List.mem_cons_of_mem _⟩
        rw [decide_eq_decide]; exact this.symm
    · rw [lt_f (by omega), cf, List.drop_eq_nil_of_le (by omega)]
      exact sat_some (by simp)
theorem contains_prog (N : Nat) (hN : 5000 < N) (l : List Int) (hl : l.length ≤ 5000) (x : Int) : slices_Contains_O N l x = some (decide (x ∈ l)) := by
  obtain ⟨r, h1, h2⟩ := index_spec N x l hl N 0 (by omega) (by omega)
  unfold slices_Contains_O slices_Index_O
  rw [show slices_Index_l3 N x l N 0 = some r from h1, bs, h2]
  rfl
theorem in17 (N : Nat) (hN : 5000 < N) (l : List Int) (hl : l.length ≤ 5000) (x : Int) : pantomimeref17_In_O N x l = some (decide (x ∈ l)) := by
  apply Sat.eq
  unfold pantomimeref17_In_O
  have key : ∀ (m i : Nat), l.length < m + i → i ≤ l.length → Sat (pantomimeref17_In_l3 N x l m (i : Int)) (· = decide (x ∈ l.drop i)) := by
    intro m
    induction m with
    | zero => intro i h h2; omega
    | succ m ih =>
      intro i h h2
      rw [pantomimeref17_In_l3_s]
      by_cases hi : i < l.length
      · rw [lt_t (by omega), ct, getE_n hi, bs, List.drop_eq_getElem_cons hi]
        refine sat_dec (fun e => ?_) fun e => ?_
        · exact sat_some (by rw [decide_eq_true]; rw [e]; exact List.mem_cons_self ..)
        · rw [r64 (by omega) (by omega)]
          have := ih (i + 1) (by omega) hi
          simp only [Int.natCast_add, Int.cast_ofNat_Int] at this
          refine this.mono fun r hr => ?_
          rw [hr]
          have : (x ∈ l[i] :: l.drop (i + 1)) ↔ x ∈ l.drop (i + 1) := ⟨fun h => (List.mem_cons.1 h).resolve_left (fun e2 => e e2.symm), List.mem_cons_of_mem _⟩
          rw [decide_eq_decide]; exact this.symm
      · rw [lt_f (by omega), cf, List.drop_eq_nil_of_le (by omega)]
        exact sat_some (by simp)
  exact key N 0 (by omega) (by omega)
theorem in19 (N : Nat) (hN : 5000 < N) (l : List Int) (hl : l.length ≤ 5000) (x : Int) : pantomimeref19_In_O N l x = some (decide (x ∈ l)) := by
  apply Sat.eq
  unfold pantomimeref19_In_O
  have key : ∀ (m i : Nat), l.length < m + i → i ≤ l.length → Sat (pantomimeref19_In_l3 N x l m (i : Int)) (· = decide (x ∈ l.drop i)) := by
    intro m
    induction m with
    | zero => intro i h h2; omega
    | succ m ih =>
      intro i h h2
      rw [pantomimeref19_In_l3_s]
      by_cases hi : i < l.length
      · rw [lt_t (by omega), ct, getE_n hi, bs, List.drop_eq_getElem_cons hi]
        refine sat_dec (fun e => ?_) fun e => ?_
        · exact sat_some (by rw [decide_eq_true]; rw [e]; exact List.mem_cons_self ..)
        · rw [r64 (by omega) (by omega)]
          have := ih (i + 1) (by omega) hi
          simp only [Int.natCast_add, Int.cast_ofNat_Int] at this
          refine this.mono fun r hr => ?_
          rw [hr]
          have : (x ∈ l[i] :: l.drop (i + 1)) ↔ x ∈ l.drop (i + 1) := ⟨fun h => (List.mem_cons.1 h).resolve_left (fun e2 => e e2.symm), List.mem_cons_of_mem _⟩
          rw [decide_eq_decide]; exact this.symm
      · rw [lt_f (by omega), cf, List.drop_eq_nil_of_le (by omega)]
        exact sat_some (by simp)
  exact key N 0 (by omega) (by omega)
def opens (p : Int → Bool) : List DValue → List Int
  | k :: v :: l => (bif hasB v && p k.N then [v.N] else []) ++ opens p l
  | _ => []
theorem opens_cons (p : Int → Bool) (k v : DValue) (l : List DValue) : opens p (k :: v :: l) = (bif hasB v && p k.N then [v.N] else []) ++ opens p l := rfl
theorem opens_len (p : Int → Bool) : ∀ l : List DValue, (opens p l).length ≤ l.length
  | [] => Nat.le_refl _
  | [_] => Nat.zero_le _
  | k :: v :: l => by
    have := opens_len p l
    rw [opens_cons, List.length_append]
    cases hasB v && p k.N <;> simp <;> omega
theorem opens_mem {p : Int → Bool} {x : Int} : ∀ {l : List DValue}, x ∈ opens p l → ∃ v ∈ l, v.N = x
  | [], h => by cases h
  | [_], h => by cases h
  | k :: v :: l, h => by
    rw [opens_cons, List.mem_append] at h
    rcases h with h | h
    · cases hb : hasB v && p k.N
      · rw [hb] at h; cases h
      · rw [hb] at h; exact ⟨v, by simp, (List.mem_singleton.1 h).symm⟩
    · obtain ⟨w, h1, h2⟩ := opens_mem h
      exact ⟨w, by simp [h1], h2⟩
theorem kind_has (v : DValue) : ((bif decide (v.Kind = 7) then (some true) else (some (decide (v.Kind = 9)))) : Option Bool) = some (hasB v) := by unfold hasB; cases decide (v.Kind = 7) <;> rfl
def opensL (N : Nat) (c : DCell) (l : List Int) : List Int := bif isWM N c then opens (fun x => decide (x ∈ l)) c.More else []
theorem opensL_len (N : Nat) (c : DCell) (l : List Int) : (opensL N c l).length ≤ c.More.length := by
  unfold opensL
  cases isWM N c
  · exact Nat.zero_le _
  · exact opens_len _ _
theorem opensL_mem {N : Nat} {c : DCell} {l : List Int} {x : Int} (h : x ∈ opensL N c l) : ∃ v ∈ c.Slots ++ c.More, v.N = x := by
  unfold opensL at h
  cases hw : isWM N c
  · rw [hw] at h; cases h
  · rw [hw] at h
    obtain ⟨v, h1, h2⟩ := opens_mem h
    exact ⟨v, by simp [h1], h2⟩
theorem opens_body (N : Nat) (hN : 5000 < N) (l : List Int) (hl : l.length ≤ 5000) (k v : DValue) (s : List Int) (hs : s.length ≤ 5000) : liftR (fun x st => weak_Opens_b12 N l x st) (k, v) (none, s) = some (true, (none, s ++ (bif hasB v && decide (k.N ∈ l) then [v.N] else []))) := by
  unfold liftR weak_Opens_b12
  simp only [kind_has, bs, contains_prog N hN l hl]
  cases hasB v
  · simp only [cf, bs, Bool.false_and, List.append_nil]; rfl
  · simp only [ct, bs, Bool.true_and]
    cases decide (k.N ∈ l)
    · simp only [cf, List.append_nil]; rfl
    · simp only [ct]
      rw [rF (by simp; omega)]
      rfl
theorem entries_prog (N : Nat) (hN : 5000 < N) (l : List Int) (hl : l.length ≤ 5000) (c : DCell) (hc : c.More.length ≤ 1000) (he : c.More.length % 2 = 0) : ∀ (m i : Nat) (s : List Int), c.More.length < m + i → i ≤ c.More.length → i % 2 = 0 → s.length ≤ i → weak_entries_c1_l4 N (liftR (fun x st => weak_Opens_b12 N l x st)) c m (i : Int) (none, s) = some (none, s ++ opens (fun x => decide (x ∈ l)) (c.More.drop i))
  | 0, i, s, h, h2, _, _ => by omega
  | m + 1, i, s, h, h2, h3, h4 => by
    rw [weak_entries_c1_l4_s, r64 (a := (i : Int) + 1) (by omega) (by omega)]
    by_cases hi : i < c.More.length
    · have hi1 : i + 1 < c.More.length := by omega
      have hl1 : getE c.More ((i : Int) + 1) = some c.More[i + 1] := by
        have := getE_n hi1
        simpa using this
      rw [lt_t (by omega), ct, getE_n hi, bs, r64 (a := (i : Int) + 1) (by omega) (by omega), hl1, bs, opens_body N hN l hl _ _ s (by omega), bs]
      simp only [nt, cf]
      rw [r64 (by omega) (by omega)]
      have hlen : (s ++ (bif hasB c.More[i + 1] && decide (c.More[i].N ∈ l) then [c.More[i + 1].N] else [])).length ≤ i + 2 := by
        cases hasB c.More[i + 1] && decide (c.More[i].N ∈ l) <;> simp <;> omega
      have := entries_prog N hN l hl c hc he m (i + 2) _ (by omega) (by omega) (by omega) hlen
      simp only [Int.natCast_add, Int.cast_ofNat_Int] at this
      rw [this, List.drop_eq_getElem_cons hi, List.drop_eq_getElem_cons hi1, opens_cons, List.append_assoc]
    · rw [lt_f (by omega), cf, List.drop_eq_nil_of_le (by omega)]
      simp [opens]
theorem opens_prog (N : Nat) (hN : 5000 < N) (l : List Int) (hl : l.length ≤ 5000) (c : DCell) (hS : c.Slots.length ≤ 1000) (hc : c.More.length ≤ 1000) : weak_Opens_O N c l = some (opensL N c l) := by
  obtain ⟨-, h1, h2⟩ := is_ref N (by omega) c hS hc
  unfold weak_Opens_O opensL weak_entries_c1_O
  rw [h1, bs]
  cases hw : isWM N c
  · rfl
  · have e : weak_entries_O N c = some () := rfl
    have := entries_prog N hN l hl c hc (h2 hw) N 0 [] (by omega) (by omega) rfl (by simp)
    simp only [nt, cf, ct, e, bs]
    have h3 : weak_entries_c1_l4 N (liftR (fun x st => weak_Opens_b12 N l x st)) c N 0 (none, []) = some (none, [] ++ opens (fun x => decide (x ∈ l)) (c.More.drop 0)) := this
    rw [h3, bs]
    rfl
theorem opens_ref (N : Nat) (hN : 5000 < N) (l : List Int) (hl : l.length ≤ 5000) (c : DCell) (hS : c.Slots.length ≤ 1000) (hc : c.More.length ≤ 1000) : pantomimeref17_Opens_O N c l = some (opensL N c l) := by
  obtain ⟨h1, -, h2⟩ := is_ref N (by omega) c hS hc
  unfold pantomimeref17_Opens_O opensL
  cases hw : isWM N c
  · obtain ⟨n, rfl⟩ : ∃ n, N = n + 1 := ⟨N - 1, by omega⟩
    rw [pantomimeref17_Opens_l7_s, h1, bs, hw]
    simp only [cf, bs]
    rfl
  · have he := h2 hw
    have key : ∀ (m i : Nat) (s : List Int), c.More.length < m + i → i ≤ c.More.length → i % 2 = 0 → s.length ≤ i → pantomimeref17_Opens_l7 N l c m s (i : Int) = some (s ++ opens (fun x => decide (x ∈ l)) (c.More.drop i)) := by
      intro m
      induction m with
      | zero => intro i s h h2; omega
      | succ m ih =>
        intro i s h h2 h3 h4
        rw [pantomimeref17_Opens_l7_s, h1, bs, hw, ct, bs]
        by_cases hi : i < c.More.length
        · have hi1 : i + 1 < c.More.length := by omega
          have hl1 : getE c.More ((i : Int) + 1) = some c.More[i + 1] := by
            have := getE_n hi1
            simpa using this
          rw [lt_t (by omega), ct, r64 (a := (i : Int) + 1) (by omega) (by omega), hl1, bs, getE_n hi, bs, in17 N hN l hl, bs]
          simp only [kind_has, bs]
          have hlen : (s ++ (bif hasB c.More[i + 1] && decide (c.More[i].N ∈ l) then [c.More[i + 1].N] else [])).length ≤ i + 2 := by
            cases hasB c.More[i + 1] && decide (c.More[i].N ∈ l) <;> simp <;> omega
          have := ih (i + 2) _ (by omega) (by omega) (by omega) hlen
          simp only [Int.natCast_add, Int.cast_ofNat_Int] at this
          rw [List.drop_eq_getElem_cons hi, List.drop_eq_getElem_cons hi1, opens_cons, ← List.append_assoc, ← this]
          unfold pantomimeref17_Opens_j14
          rw [r64 (a := (i : Int) + 2) (by omega) (by omega), r64 (a := (i : Int) + 2) (by omega) (by omega)]
          cases decide (c.More[i].N ∈ l)
          · simp only [cf, bs, Bool.and_false, List.append_nil]
          · cases hasB c.More[i + 1]
            · simp only [ct, cf, bs, Bool.and_true, List.append_nil]
            · simp only [ct, bs, Bool.and_true]
              rw [rF (by simp; omega)]
        · rw [lt_f (by omega), cf, List.drop_eq_nil_of_le (by omega)]
          simp [opens, pantomimeref17_Opens_j5]
    have := key N 0 [] (by omega) (by omega) rfl (by simp)
    simpa using this
end Go.Proofs.YtmbaennilhdieaaGreat

/- Plain: the traversal. -/
namespace Go.Proofs.YtmbaennilhdieaaGreat
open Go.RowKit

theorem nodup_le : ∀ (b : Nat) {l : List Int}, l.Nodup → (∀ x ∈ l, 1 ≤ x ∧ x ≤ (b : Int)) → l.length ≤ b
  | 0, l, _, h => by
    cases l with
    | nil => exact Nat.le_refl _
    | cons x l => have := h x (by simp); omega
  | b + 1, l, hn, h => by
    have h1 := nodup_le b (hn.erase ((b : Int) + 1)) fun x hx => by
      obtain ⟨h2, h3⟩ := hn.mem_erase_iff.1 hx
      have := h x h3
      omega
    have h2 := List.length_erase (a := (b : Int) + 1) (l := l)
    split at h2 <;> omega
theorem lk_mem (kv : List (Int × Unit)) (a : Int) : (lk kv a).isSome = decide (a ∈ kv.map (·.1)) := by
  unfold lk
  rw [Bool.eq_iff_iff]
  simp [List.find?_isSome, List.mem_map]
/-- the numbers of all values fit into an int -/
def W64 (m : DMemory) : Prop := ∀ c ∈ m.Young ++ m.Old, ∀ v ∈ c.Slots ++ c.More, in64 v.N
theorem W64.at_ {m : DMemory} (h : W64 m) (a : Int) : ∀ v ∈ (atM m a).Slots ++ (atM m a).More, in64 v.N := by
  unfold atM
  cases hc : cellAt m a with
  | none => intro v hv; simp [zeroC] at hv
  | some c => exact h c (cellAt_mem hc)
/-- what was discovered so far -/
structure Tr (m : DMemory) (all : List Int) (met : List (Int × Unit)) : Prop where
  nd : all.Nodup
  mem : ∀ x, x ∈ met.map (·.1) ↔ x ∈ all
  has : ∀ x ∈ all, hasM m x = true
theorem Tr.len {m : DMemory} {roots : List DValue} (hs : Small m roots) {all : List Int} {met : List (Int × Unit)} (h : Tr m all met) : all.length ≤ 1200 := nodup_le 1200 h.nd fun x hx => ⟨by have := hasM_pos (h.has x hx); omega, by have := hasM_le hs (h.has x hx); omega⟩
theorem Tr.in64 {m : DMemory} {roots : List DValue} (hs : Small m roots) {all : List Int} {met : List (Int × Unit)} (h : Tr m all met) {x : Int} (hx : x ∈ all) : in64 x := by
  have h1 := hasM_pos (h.has x hx)
  have h2 := hasM_le hs (h.has x hx)
  unfold Go.Proofs.YtmbaennilhdieaaGreat.in64; omega
theorem Tr.add {m : DMemory} {all : List Int} {met : List (Int × Unit)} (h : Tr m all met) {x : Int} (hx : x ∉ all) (hh : hasM m x = true) : Tr m (all ++ [x]) (upL met x ()) := ⟨List.nodup_append.2 ⟨h.nd, by simp, fun a ha b hb e => by rw [List.mem_singleton] at hb; subst hb; subst e; exact hx ha⟩, fun y => by
  rw [upL_mem, List.mem_append, List.mem_singleton, h.mem y]; exact Or.comm, fun y hy => by
  rcases List.mem_append.1 hy with hy | hy
  · exact h.has y hy
  · rw [List.mem_singleton] at hy; subst hy; exact hh⟩
/-- the first k discovered cells were visited -/
def Clo (m : DMemory) (all : List Int) (k : Nat) : Prop := ∀ (i : Nat) (a x : Int), i < k → all[i]? = some a → x ∈ leadsL (atM m a) → hasM m x = true → x ∈ all
theorem leads_ok {m : DMemory} {roots : List DValue} (hs : Small m roots) (hw : W64 m) (a : Int) : (leadsL (atM m a)).length ≤ 2000 ∧ ∀ x ∈ leadsL (atM m a), in64 x := by
  have h1 := hs.at_ a
  have h2 := leadsL_len (atM m a)
  refine ⟨by omega, fun x hx => ?_⟩
  obtain ⟨v, h3, rfl⟩ := leadsL_mem hx
  exact hw.at_ a v h3
end Go.Proofs.YtmbaennilhdieaaGreat

/- Plain: traversals of a graph with weak maps, as relations. No program in sight. -/
namespace Go.Proofs.YtmbaennilhdieaaGreat
open Go.RowKit

structure Gr where
  has : Int → Bool
  leads : Int → List Int
  opens : List Int → Int → List Int
def layL (has : Int → Bool) : List Int → List Int → List Int
  | row, [] => row
  | row, x :: l => layL has (bif has x && !decide (x ∈ row) then row ++ [x] else row) l
inductive Thr (g : Gr) : List Int → Nat → List Int → Prop
  | done {row : List Int} {k : Nat} : row.length ≤ k → Thr g row k row
  | step {row : List Int} {k : Nat} {a : Int} {r : List Int} : row[k]? = some a → Thr g (layL g.has row (g.leads a)) (k + 1) r → Thr g row k r
def passL (g : Gr) : List Int → List Int → List Int
  | row, [] => row
  | row, a :: avs => passL g (layL g.has row (g.opens row a)) avs
inductive Ord (g : Gr) : List Int → List Int → Prop
  | done {row : List Int} : passL g row row = row → Ord g row row
  | step {row r1 r : List Int} : passL g row row ≠ row → Thr g (passL g row row) row.length r1 → Ord g r1 r → Ord g row r
/-- l is the order of discovery from the addresses roots; b is what is discovered without weak maps -/
structure IsOrder (g : Gr) (roots : List Int) (b l : List Int) : Prop where
  strong : Thr g (layL g.has [] roots) 0 b
  all : Ord g b l

theorem layL_app (has : Int → Bool) : ∀ (row l : List Int), ∃ t, layL has row l = row ++ t ∧ (∀ x ∈ t, has x = true ∧ x ∈ l)
  | row, [] => ⟨[], by simp [layL], by simp⟩
  | row, x :: l => by
    unfold layL
    cases h : has x && !decide (x ∈ row) with
    | false =>
      obtain ⟨t, h1, h2⟩ := layL_app has row l
      exact ⟨t, h1, fun y hy => ⟨(h2 y hy).1, by simp [(h2 y hy).2]⟩⟩
    | true =>
      obtain ⟨t, h1, h2⟩ := layL_app has (row ++ [x]) l
      refine ⟨x :: t, by rw [cond_true, h1]; simp, fun y hy => ?_⟩
      rw [Bool.and_eq_true] at h
      rcases List.mem_cons.1 hy with e | hy
      · subst e; exact ⟨h.1, by simp⟩
      · exact ⟨(h2 y hy).1, by simp [(h2 y hy).2]⟩
theorem layL_two (has : Int → Bool) : ∀ (row l l' : List Int), layL has row (l ++ l') = layL has (layL has row l) l'
  | _, [], _ => rfl
  | row, x :: l, l' => by
    show layL has _ (l ++ l') = _
    rw [layL_two has _ l l']; rfl
theorem layL_nodup {has : Int → Bool} : ∀ {row : List Int} (l : List Int), row.Nodup → (layL has row l).Nodup
  | _, [], h => h
  | row, x :: l, h => by
    unfold layL
    cases h2 : has x && !decide (x ∈ row) with
    | false => exact layL_nodup l h
    | true =>
      rw [Bool.and_eq_true] at h2
      have hx : x ∉ row := by simpa using h2.2
      exact layL_nodup l (List.nodup_append.2 ⟨h, by simp, fun a ha b hb e => by rw [List.mem_singleton] at hb; subst hb; subst e; exact hx ha⟩)
theorem layL_new {has : Int → Bool} {row l : List Int} {x : Int} (h : x ∈ layL has row l) : x ∈ row ∨ (has x = true ∧ x ∈ l) := by
  obtain ⟨t, h1, h2⟩ := layL_app has row l
  rw [h1] at h
  rcases List.mem_append.1 h with h | h
  · exact .inl h
  · exact .inr (h2 x h)
theorem passL_app (g : Gr) : ∀ (row avs : List Int), ∃ t, passL g row avs = row ++ t
  | row, [] => ⟨[], by simp [passL]⟩
  | row, a :: avs => by
    obtain ⟨t, h1, -⟩ := layL_app g.has row (g.opens row a)
    obtain ⟨t2, h2⟩ := passL_app g (layL g.has row (g.opens row a)) avs
    exact ⟨t ++ t2, by unfold passL; rw [h2, h1, List.append_assoc]⟩
theorem passL_two (g : Gr) : ∀ (row avs bs : List Int), passL g row (avs ++ bs) = passL g (passL g row avs) bs
  | _, [], _ => rfl
  | row, a :: avs, bs => by
    show passL g _ (avs ++ bs) = _
    rw [passL_two g _ avs bs]; rfl
theorem passL_nodup {g : Gr} : ∀ {row : List Int} (avs : List Int), row.Nodup → (passL g row avs).Nodup
  | _, [], h => h
  | _, _ :: avs, h => passL_nodup avs (layL_nodup _ h)
theorem passL_has {g : Gr} : ∀ {row : List Int} (avs : List Int), (∀ x ∈ row, g.has x = true) → ∀ x ∈ passL g row avs, g.has x = true
  | _, [], h => h
  | _, _ :: avs, h => passL_has avs fun x hx => (layL_new hx).elim (h x) (·.1)
theorem Thr.app {g : Gr} {row r : List Int} {k : Nat} (h : Thr g row k r) : ∃ t, r = row ++ t := by
  induction h with
  | done _ => exact ⟨[], by simp⟩
  | step _ _ ih =>
    rename_i row _ a _ _ _
    obtain ⟨t, rfl⟩ := ih
    obtain ⟨t2, h1, -⟩ := layL_app g.has row (g.leads a)
    exact ⟨t2 ++ t, by rw [h1, List.append_assoc]⟩
theorem Thr.nodup {g : Gr} {row r : List Int} {k : Nat} (h : Thr g row k r) (hn : row.Nodup) : r.Nodup := by
  induction h with
  | done _ => exact hn
  | step _ _ ih => exact ih (layL_nodup _ hn)
theorem Thr.has {g : Gr} {row r : List Int} {k : Nat} (h : Thr g row k r) (hn : ∀ x ∈ row, g.has x = true) : ∀ x ∈ r, g.has x = true := by
  induction h with
  | done _ => exact hn
  | step _ _ ih => exact ih fun x hx => (layL_new hx).elim (hn x) (·.1)
theorem Thr.det {g : Gr} {row r r' : List Int} {k : Nat} (h : Thr g row k r) (h' : Thr g row k r') : r = r' := by
  induction h with
  | done hk =>
    cases h' with
    | done _ => rfl
    | step ha _ => rw [List.getElem?_eq_none hk] at ha; cases ha
  | step ha _ ih =>
    cases h' with
    | done hk => rw [List.getElem?_eq_none hk] at ha; cases ha
    | step ha' h2 => rw [ha] at ha'; cases ha'; exact ih h2
theorem Ord.det {g : Gr} {row r r' : List Int} (h : Ord g row r) (h' : Ord g row r') : r = r' := by
  induction h with
  | done hk =>
    cases h' with
    | done _ => rfl
    | step ha _ _ => exact absurd hk ha
  | step ha h1 _ ih =>
    cases h' with
    | done hk => exact absurd hk ha
    | step _ h1' h2 => exact ih (h1.det h1' ▸ h2)
theorem IsOrder.det {g : Gr} {roots b l b' l' : List Int} (h : IsOrder g roots b l) (h' : IsOrder g roots b' l') : b = b' ∧ l = l' := by
  obtain ⟨h1, h2⟩ := h
  obtain ⟨h3, h4⟩ := h'
  have e := h1.det h3
  subst e
  exact ⟨rfl, h2.det h4⟩
theorem Ord.nodup {g : Gr} {row r : List Int} (h : Ord g row r) (hn : row.Nodup) : r.Nodup := by
  induction h with
  | done _ => exact hn
  | step _ h1 _ ih => exact ih (h1.nodup (passL_nodup _ hn))
theorem Ord.has {g : Gr} {row r : List Int} (h : Ord g row r) (hn : ∀ x ∈ row, g.has x = true) : ∀ x ∈ r, g.has x = true := by
  induction h with
  | done _ => exact hn
  | step _ h1 _ ih => exact ih (h1.has (passL_has _ hn))
theorem IsOrder.nodup {g : Gr} {roots b l : List Int} (h : IsOrder g roots b l) : b.Nodup ∧ l.Nodup :=
  have hb := h.strong.nodup (layL_nodup _ List.nodup_nil)
  ⟨hb, h.all.nodup hb⟩
theorem IsOrder.has {g : Gr} {roots b l : List Int} (h : IsOrder g roots b l) : (∀ x ∈ b, g.has x = true) ∧ ∀ x ∈ l, g.has x = true :=
  have hb := h.strong.has fun x hx => (layL_new hx).elim (fun h => by cases h) (·.1)
  ⟨hb, h.all.has hb⟩
/-- the first k were visited -/
def CloG (g : Gr) (row : List Int) (k : Nat) : Prop := ∀ (i : Nat) (a x : Int), i < k → row[i]? = some a → x ∈ g.leads a → g.has x = true → x ∈ row
/-- what is closed holds what is discovered -/
structure ClosedS (g : Gr) (S : Int → Prop) : Prop where
  leads : ∀ a, S a → ∀ x ∈ g.leads a, g.has x = true → S x
  opens : ∀ row : List Int, (∀ x ∈ row, S x) → ∀ a, S a → ∀ x ∈ g.opens row a, g.has x = true → S x
end Go.Proofs.YtmbaennilhdieaaGreat

/- Plain: the program's traversal is the one of the relation. -/
namespace Go.Proofs.YtmbaennilhdieaaGreat
open Go.RowKit

def grM (N : Nat) (m : DMemory) : Gr := ⟨hasM m, fun a => leadsL (atM m a), fun row a => opensL N (atM m a) row⟩
def addrL (l : List DValue) : List Int := (l.filter hasB).map (·.N)
theorem addrL_app (l l' : List DValue) : addrL (l ++ l') = addrL l ++ addrL l' := by unfold addrL; simp
theorem addrL_mem {l : List DValue} {x : Int} : x ∈ addrL l ↔ ∃ v ∈ l, hasB v = true ∧ v.N = x := by
  unfold addrL; simp only [List.mem_map, List.mem_filter]
  constructor
  · rintro ⟨v, ⟨h1, h2⟩, h3⟩; exact ⟨v, h1, h2, h3⟩
  · rintro ⟨v, h1, h2, h3⟩; exact ⟨v, ⟨h1, h2⟩, h3⟩
theorem lay_fun (N : Nat) {m : DMemory} {roots : List DValue} (hN : 5000 < N) (hs : Small m roots) (d : Int) (l : List Int) (hl : l.length ≤ 2000) (h64 : ∀ x ∈ l, in64 x) {all : List Int} {met : List (Int × Unit)} (ht : Tr m all met) :
    Sat (reach_row_lay_O N ⟨m, all, met, d⟩ l) fun r => r.m_ = m ∧ r.done_ = d ∧ Tr m r.all_ r.met_ ∧ r.all_ = layL (hasM m) all l := by
  unfold reach_row_lay_O
  refine loop_inv (fun k i (s : List Int × List (Int × Unit)) => reach_row_lay_l7 N l ⟨m, all, met, d⟩ k (i : Int) s.1 s.2) l.length (fun i s => Tr m s.1 s.2 ∧ s.1 = layL (hasM m) all (l.take i)) _ ?_ ?_ N 0 (all, met) (by omega) (by omega) ⟨ht, rfl⟩
  · rintro k i ⟨al, mt⟩ hi ⟨h1, h2⟩ go
    show Sat (reach_row_lay_l7 N l ⟨m, all, met, d⟩ (k + 1) i al mt) _
    simp only at h1 h2
    have hx64 := h64 l[i] (List.getElem_mem _)
    have hnext : layL (hasM m) all (l.take (i + 1)) = (bif hasM m l[i] && !decide (l[i] ∈ al) then al ++ [l[i]] else al) := by
      rw [take_succ_get hi, layL_two, ← h2]; rfl
    rw [reach_row_lay_l7_s, lt_t (by omega), ct, getE_n hi, bs, lk_mem]
    unfold reach_row_lay_j12
    rw [r64 (a := (i : Int) + 1) (by omega) (by omega), r64 (a := (i : Int) + 1) (by omega) (by omega)]
    by_cases hm : l[i] ∈ al
    · rw [decide_eq_true ((h1.mem _).2 hm)]
      simp only [nt, cf, bs]
      exact go (al, mt) ⟨h1, by rw [hnext, decide_eq_true hm]; simp⟩
    · rw [decide_eq_false (fun h => hm ((h1.mem _).1 h))]
      simp only [nf, ct, bs, has_prog N m _ hx64]
      cases hh : hasM m l[i]
      · simp only [cf]
        exact go (al, mt) ⟨h1, by rw [hnext, hh]; rfl⟩
      · simp only [ct]
        have hlen := h1.len hs
        rw [rF (by simp; omega)]
        exact go (al ++ [l[i]], upL mt l[i] ()) ⟨h1.add hm hh, by rw [hnext, hh, decide_eq_false hm]; rfl⟩
  · rintro k ⟨al, mt⟩ ⟨h1, h2⟩
    show Sat (reach_row_lay_l7 N l ⟨m, all, met, d⟩ (k + 1) _ al mt) _
    rw [reach_row_lay_l7_s, lt_f (by omega), cf]
    exact sat_some ⟨rfl, rfl, h1, by simpa using h2⟩
theorem through_fun (N : Nat) (hN : 5000 < N) {m : DMemory} {roots : List DValue} (hs : Small m roots) (hw : W64 m) {all : List Int} {met : List (Int × Unit)} (ht : Tr m all met) (k : Nat) (hk : k ≤ all.length) :
    Sat (reach_row_through_O N ⟨m, all, met, (k : Int)⟩) fun r => r.m_ = m ∧ r.done_ = (r.all_.length : Int) ∧ Tr m r.all_ r.met_ ∧ Thr (grM N m) all k r.all_ := by
  unfold reach_row_through_O
  refine loop_dec (fun f (s : List Int × List (Int × Unit) × Nat) => reach_row_through_l6 N f m.Young m.Old s.1 s.2.1 (s.2.2 : Int)) (fun s => 1300 - s.2.2) (fun s => Tr m s.1 s.2.1 ∧ s.2.2 ≤ s.1.length ∧ ∀ r, Thr (grM N m) s.1 s.2.2 r → Thr (grM N m) all k r) _ ?_ N (all, met, k) (by show 1300 - k < N; omega) ⟨ht, hk, fun _ h => h⟩
  rintro f ⟨al, mt, j⟩ ⟨h1, h3, h4⟩ go
  show Sat (reach_row_through_l6 N (f + 1) m.Young m.Old al mt (j : Int)) _
  simp only at h1 h3 h4
  have hlen := h1.len hs
  rw [reach_row_through_l6_s]
  by_cases hj : j < al.length
  · have hx := List.getElem_mem hj
    have hat := at_prog N hs al[j] (h1.in64 hs hx)
    have hsm := hs.at_ al[j]
    obtain ⟨hl1, hl2⟩ := leads_ok hs hw al[j]
    rw [lt_t (by omega), ct, getE_n hj, bs]
    have hat' : reach_At_O N ⟨m.Young, m.Old⟩ al[j] = some (atM m al[j]) := hat
    rw [hat', bs, leads_prog N (by omega) _ (by omega) (by omega), bs]
    refine Sat.bind (lay_fun N hN hs (j : Int) _ hl1 hl2 h1) ?_
    rintro ⟨m', al', mt', d'⟩ ⟨e1, e2, h5, h6⟩
    simp only at e1 e2 h5 h6
    subst e1 e2
    have hlen' := h5.len hs
    dsimp only
    rw [r64 (by omega) (by omega)]
    have hge : al.length ≤ al'.length := by
      obtain ⟨t, e, -⟩ := layL_app (hasM m') al (leadsL (atM m' al[j]))
      rw [h6, e, List.length_append]; omega
    have hgo := go (al', mt', j + 1) (by show 1300 - (j + 1) < 1300 - j; omega) ⟨h5, by show j + 1 ≤ al'.length; omega, fun r hr => h4 r (.step (List.getElem?_eq_getElem hj) (by rw [h6] at hr; exact hr))⟩
    simpa using hgo
  · have : j = al.length := by omega
    subst this
    rw [lt_f (by omega), cf]
    exact sat_some ⟨rfl, rfl, h1, h4 _ (.done (Nat.le_refl _))⟩
theorem begin_fun (N : Nat) (hN : 5000 < N) {m : DMemory} {roots : List DValue} (hs : Small m roots) (hw : W64 m) (hr : ∀ v ∈ roots, in64 v.N) :
    Sat (reach_begin_O N m roots) fun r => r.m_ = m ∧ r.done_ = (r.all_.length : Int) ∧ Tr m r.all_ r.met_ ∧ Thr (grM N m) (layL (hasM m) [] (addrL roots)) 0 r.all_ := by
  have hrl := hs.roots
  unfold reach_begin_O
  refine loop_inv (fun k i (s : List Int × List (Int × Unit)) => reach_begin_l14 N roots k (i : Int) m.Young m.Old s.1 s.2 0) roots.length (fun i s => Tr m s.1 s.2 ∧ s.1 = layL (hasM m) [] (addrL (roots.take i))) _ ?_ ?_ N 0 ([], []) (by omega) (by omega) ⟨⟨by simp, by simp, by simp⟩, rfl⟩
  · rintro k i ⟨al, mt⟩ hi ⟨h1, h2⟩ go
    show Sat (reach_begin_l14 N roots (k + 1) (i : Int) m.Young m.Old al mt 0) _
    simp only at h1 h2
    have hx64 := hr roots[i] (List.getElem_mem _)
    have ha : reach_address_O N roots[i] = some (roots[i].N, hasB roots[i]) := by
      unfold reach_address_O; rw [kind_has, bs]
    have hnext : layL (hasM m) [] (addrL (roots.take (i + 1))) = layL (hasM m) al (addrL [roots[i]]) := by
      rw [take_succ_get hi, addrL_app, layL_two, ← h2]
    rw [reach_begin_l14_s, lt_t (by omega), ct, getE_n hi, bs]
    unfold reach_begin_c1_O
    rw [ha, bs]
    cases hb : hasB roots[i]
    · simp only [cf, bs]
      rw [r64 (by omega) (by omega)]
      refine go (al, mt) ⟨h1, ?_⟩
      rw [hnext]; simp [addrL, hb, layL]
    · simp only [ct]
      obtain ⟨⟨m', al', mt', d'⟩, e0, e1, e2, h5, h6⟩ := lay_fun N hN hs 0 [roots[i].N] (by simp) (by intro x hx; rw [List.mem_singleton] at hx; subst hx; exact hx64) h1
      simp only at e1 e2 h5 h6
      subst e1 e2
      have e0' : reach_row_lay_O N ⟨⟨m'.Young, m'.Old⟩, al, mt, 0⟩ [roots[i].N] = some ⟨m', al', mt', 0⟩ := e0
      rw [e0', bs, bs]
      dsimp only
      rw [r64 (by omega) (by omega)]
      refine go (al', mt') ⟨h5, ?_⟩
      show al' = _
      rw [hnext, h6]; simp [addrL, hb]
  · rintro k ⟨al, mt⟩ ⟨h1, h2⟩
    show Sat (reach_begin_l14 N roots (k + 1) _ m.Young m.Old al mt 0) _
    rw [reach_begin_l14_s, lt_f (by omega), cf]
    unfold reach_begin_j8
    refine Sat.bind (through_fun N hN hs hw h1 0 (Nat.zero_le _)) ?_
    rintro r ⟨e1, e2, h5, h6⟩
    simp only [List.take_length] at h2
    exact sat_some ⟨e1, e2, h5, by rw [← h2]; exact h6⟩
theorem opens_ok (N : Nat) {m : DMemory} {roots : List DValue} (hs : Small m roots) (hw : W64 m) (a : Int) (l : List Int) : (opensL N (atM m a) l).length ≤ 2000 ∧ ∀ x ∈ opensL N (atM m a) l, in64 x := by
  have h1 := hs.at_ a
  have h2 := opensL_len N (atM m a) l
  refine ⟨by omega, fun x hx => ?_⟩
  obtain ⟨v, h3, rfl⟩ := opensL_mem hx
  exact hw.at_ a v h3
theorem pass_fun (N : Nat) (hN : 5000 < N) {m : DMemory} {roots : List DValue} (hs : Small m roots) (hw : W64 m) {all : List Int} {met : List (Int × Unit)} (ht : Tr m all met) (d : Int) :
    Sat (reach_row_pass_O N ⟨m, all, met, d⟩) fun r => r.2.m_ = m ∧ r.2.done_ = d ∧ Tr m r.2.all_ r.2.met_ ∧ r.1 = decide ((all.length : Int) < (r.2.all_.length : Int)) ∧ r.2.all_ = passL (grM N m) all all := by
  have hlen := ht.len hs
  unfold reach_row_pass_O
  refine loop_inv (fun k i (s : List Int × List (Int × Unit)) => reach_row_pass_l13 N ⟨m, all, met, d⟩ k (i : Int) m.Young m.Old s.1 s.2 d) all.length (fun i s => Tr m s.1 s.2 ∧ (∃ t, s.1 = all ++ t) ∧ s.1 = passL (grM N m) all (all.take i)) _ ?_ ?_ N 0 (all, met) (by omega) (by omega) ⟨ht, ⟨[], by simp⟩, rfl⟩
  · rintro k i ⟨al, mt⟩ hi ⟨h1, ⟨t, h2⟩, h3⟩ go
    show Sat (reach_row_pass_l13 N ⟨m, all, met, d⟩ (k + 1) (i : Int) m.Young m.Old al mt d) _
    simp only at h1 h2 h3
    have hlen1 := h1.len hs
    have htk : List.take all.length al = all := by rw [h2, List.take_left']; rfl
    have hx := List.getElem_mem hi
    have hsm := hs.at_ all[i]
    have hat : reach_At_O N ⟨m.Young, m.Old⟩ all[i] = some (atM m all[i]) := at_prog N hs all[i] (ht.in64 hs hx)
    have hnext : passL (grM N m) all (all.take (i + 1)) = layL (hasM m) al (opensL N (atM m all[i]) al) := by
      rw [take_succ_get hi, passL_two, ← h3]; rfl
    rw [reach_row_pass_l13_s]
    simp only [List.take_length]
    rw [lt_t (by omega), ct, htk, getE_n hi, bs, hat, bs]
    unfold reach_row_pass_j21
    by_cases h8 : (atM m all[i]).Kind = 8
    · rw [eq_t h8, ct, opens_prog N hN al (by omega) _ (by omega) (by omega), bs]
      obtain ⟨hl1, hl2⟩ := opens_ok N hs hw all[i] al
      obtain ⟨⟨m', al', mt', d'⟩, e0, e1, e2, h5, h6⟩ := lay_fun N hN hs d _ hl1 hl2 h1
      simp only at e1 e2 h5 h6
      subst e1 e2
      have e0' : reach_row_lay_O N ⟨⟨m'.Young, m'.Old⟩, al, mt, d'⟩ (opensL N (atM m' all[i]) al) = some ⟨m', al', mt', d'⟩ := e0
      rw [e0', bs]
      dsimp only
      rw [r64 (by omega) (by omega)]
      obtain ⟨t', e', -⟩ := layL_app (hasM m') al (opensL N (atM m' all[i]) al)
      exact go (al', mt') ⟨h5, ⟨t ++ t', by show al' = _; rw [h6, e', h2, List.append_assoc]⟩, by show al' = _; rw [hnext, h6]⟩
    · rw [eq_f h8, cf, r64 (by omega) (by omega)]
      refine go (al, mt) ⟨h1, ⟨t, h2⟩, ?_⟩
      have h0 : opensL N (atM m all[i]) al = [] := by
        unfold opensL isWM
        rw [eq_f h8]; rfl
      show al = _
      rw [hnext, h0]; rfl
  · rintro k ⟨al, mt⟩ ⟨h1, ⟨t, h2⟩, h3⟩
    show Sat (reach_row_pass_l13 N ⟨m, all, met, d⟩ (k + 1) _ m.Young m.Old al mt d) _
    rw [reach_row_pass_l13_s]
    simp only [List.take_length] at h3 ⊢
    rw [lt_f (by omega), cf]
    exact sat_some ⟨rfl, rfl, h1, rfl, h3⟩
/-- Order, Live and Strong, as the relation has them -/
theorem order_fun (N : Nat) (hN : 5000 < N) {m : DMemory} {roots : List DValue} (hs : Small m roots) (hw : W64 m) (hr : ∀ v ∈ roots, in64 v.N) :
    ∃ b all, IsOrder (grM N m) (addrL roots) b.all_ all ∧ all.length ≤ 1200 ∧ b.all_.length ≤ 1200 ∧ reach_begin_O N m roots = some b ∧ reach_Order_O N m roots = some all := by
  obtain ⟨⟨m', al0, mt0, d0⟩, e0, e1, e2, h1, h2⟩ := begin_fun N hN hs hw hr
  simp only at e1 e2 h1 h2
  subst e1 e2
  have hlen0 := h1.len hs
  have key : Sat (reach_Order_O N m' roots) fun all => Ord (grM N m') al0 all ∧ all.length ≤ 1200 := by
    unfold reach_Order_O
    rw [e0, bs]
    refine loop_dec (fun f (s : List Int × List (Int × Unit)) => reach_Order_l17 N f m'.Young m'.Old s.1 s.2 (s.1.length : Int)) (fun s => 1300 - s.1.length) (fun s => Tr m' s.1 s.2 ∧ ∀ r, Ord (grM N m') s.1 r → Ord (grM N m') al0 r) _ ?_ N (al0, mt0) (by show 1300 - al0.length < N; omega) ⟨h1, fun _ h => h⟩
    rintro f ⟨al, mt⟩ ⟨h4, h5⟩ go
    show Sat (reach_Order_l17 N (f + 1) m'.Young m'.Old al mt (al.length : Int)) _
    simp only at h4 h5
    have hlen := h4.len hs
    rw [reach_Order_l17_s]
    obtain ⟨⟨b, m2, al2, mt2, d2⟩, g0, g1, g2, g3, g5, g6⟩ := pass_fun N hN hs hw h4 (al.length : Int)
    simp only at g1 g2 g3 g5 g6
    subst g1 g2
    have hlen2 := g3.len hs
    have g0' : reach_row_pass_O N ⟨⟨m2.Young, m2.Old⟩, al, mt, (al.length : Int)⟩ = some (b, ⟨m2, al2, mt2, (al.length : Int)⟩) := g0
    obtain ⟨t2, ht2⟩ := passL_app (grM N m2) al al
    rw [g0', bs]
    dsimp only
    rw [g5]
    refine sat_dec (fun hlt => ?_) fun hge => ?_
    · refine Sat.bind (through_fun N hN hs hw g3 al.length (by omega)) ?_
      rintro ⟨m3, al3, mt3, d3⟩ ⟨k1, k2, k3, k4⟩
      simp only at k1 k2 k3 k4
      subst k1 k2
      have hlen3 := k3.len hs
      refine go (al3, mt3) ?_ ⟨k3, fun r h => h5 r (.step ?_ (by rw [← g6]; exact k4) h)⟩
      · show 1300 - al3.length < 1300 - al.length
        obtain ⟨t3, e3⟩ := k4.app
        have : al2.length ≤ al3.length := by rw [e3, List.length_append]; omega
        omega
      · rw [← g6]; intro e; rw [e] at hlt; omega
    · have e : al2 = al := by
        rw [ht2] at g6
        have h0 : t2 = [] := List.eq_nil_of_length_eq_zero (by rw [g6, List.length_append] at hge; omega)
        rw [g6, h0, List.append_nil]
      subst e
      unfold reach_Order_j11
      exact sat_some ⟨h5 _ (.done g6.symm), by omega⟩
  obtain ⟨all, k1, k2, k3⟩ := key
  exact ⟨⟨m', al0, mt0, (al0.length : Int)⟩, all, ⟨h2, k2⟩, k3, hlen0, e0, k1⟩
end Go.Proofs.YtmbaennilhdieaaGreat

/- Plain: every cell has an answer whether it is valid; what a valid registry holds. -/
namespace Go.Proofs.YtmbaennilhdieaaGreat
open Go.RowKit

abbrev Tot {ρ : Type} (m : Option ρ) : Prop := Sat m fun _ => True
theorem tot_some {ρ : Type} (x : ρ) : Tot (some x) := sat_some trivial
theorem tot_bif {ρ : Type} {b : Bool} {x y : Option ρ} (hx : b = true → Tot x) (hy : b = false → Tot y) : Tot (bif b then x else y) := sat_cond hx hy
theorem num_tot (N : Nat) (v : DValue) (a b : Int) : Tot (pantomimeref15_num_O N v a b) := by
  unfold pantomimeref15_num_O
  refine Sat.bind (P := fun _ => True) (tot_bif (fun _ => tot_some _) fun _ => tot_some _) fun x _ => Sat.bind (P := fun _ => True) (tot_bif (fun _ => tot_some _) fun _ => tot_some _) fun y _ => tot_some _
theorem none_tot (N : Nat) (v : DValue) (a : Int) : Tot (pantomimeref15_none_O N v a) := by
  unfold pantomimeref15_none_O
  exact Sat.bind (P := fun _ => True) (tot_bif (fun _ => tot_some _) fun _ => tot_some _) fun x _ => tot_some _
/-- a && b, where b needs a -/
theorem tot_and {c : Bool} {m : Option Bool} (h : c = true → Tot m) : Tot (bif c then m else some false) := tot_bif h fun _ => tot_some _
theorem tot_at {l : List DValue} {i : Nat} {f : DValue → Option Bool} (hi : i < l.length) (h : ∀ v, Tot (f v)) : Tot ((getE l (i : Int)).bind f) := by
  rw [getE_n hi, bs]; exact h _
theorem tot_bind {m : Option Bool} {f : Bool → Option Bool} (h : Tot m) (k : ∀ b, Tot (f b)) : Tot (m.bind f) := Sat.bind h fun b _ => k b
theorem tot_bindP {m : Option Bool} {p : Prop} {f : Bool → Option Bool} (h : Sat m fun b => b = true → p) (k : ∀ b, (b = true → p) → Tot (f b)) : Tot (m.bind f) := Sat.bind h k
theorem slots_tot (N : Nat) (c : DCell) : Tot (pantomimeref15_slots_O N c) := by
  unfold pantomimeref15_slots_O
  have hp : Tot (pantomimeref15_Props_O N c.Kind) := by
    unfold pantomimeref15_Props_O
    iterate 6 refine tot_bind (tot_bif (fun _ => tot_some _) fun _ => tot_some _) fun _ => ?_
    exact tot_some _
  refine tot_bind hp fun y => tot_bind (tot_bif (fun _ => tot_some _) fun _ => tot_bind (tot_bif (fun _ => tot_some _) fun _ => tot_some _) fun _ => tot_some _) fun b => ?_
  refine tot_bif (fun _ => ?_) fun _ => ?_
  · refine tot_bindP (p := 0 < c.Slots.length) (sat_dec (fun h => sat_some fun _ => by omega) fun _ => sat_some fun h => by cases h) fun b hb => tot_bind (tot_and fun h => ?_) fun _ => tot_some _
    have h0 := hb h
    refine tot_at (i := 0) h0 fun v => tot_bind (tot_bif (fun _ => tot_some _) fun _ => tot_at (i := 0) h0 fun _ => tot_some _) fun _ => tot_some _
  · refine tot_bif (fun _ => tot_some _) fun _ => tot_bind (tot_bif (fun _ => tot_some _) fun _ => tot_some _) fun _ => tot_bif (fun _ => tot_some _) fun _ => sat_cond (fun _ => ?_) fun _ => tot_some _
    refine tot_bindP (p := 1 < c.Slots.length) (sat_dec (fun h => ?_) fun _ => sat_some fun h => by cases h) fun b hb => tot_bind (tot_and fun h => ?_) fun _ => tot_some _
    · rw [show ((0 : Int)) = ((0 : Nat) : Int) from rfl, getE_n (by omega), bs]
      obtain ⟨x, hx, -⟩ := none_tot N c.Slots[0] 7
      rw [hx, bs]; exact sat_some fun _ => by omega
    · refine tot_at (i := 1) (hb h) fun v => tot_bind (none_tot N v 7) fun _ => tot_some _
theorem at_tot {l : List DValue} {i : Nat} {m : DValue → Option Bool} (hi : i < l.length) (h : ∀ v, Tot (m v)) {p : Prop} (hp : p) : Sat ((getE l (i : Int)).bind fun x => (m x).bind fun y => some y) fun b => b = true → p := by
  rw [getE_n hi, bs]
  obtain ⟨x, hx, -⟩ := h l[i]
  rw [hx, bs]; exact sat_some fun _ => hp
/-- what is known of More where it is valid -/
def MoreOk (c : DCell) : Prop := (c.Kind = 8 → c.More.length % 2 = 0) ∧ (c.Kind = 10 → 1 ≤ c.More.length ∧ (c.More.length - 1) % 4 = 0)
theorem more_tot (N : Nat) (hN : 2000 < N) (c : DCell) (hc : c.More.length ≤ 1000) : Sat (pantomimeref15_more_O N c) fun b => b = true → MoreOk c := by
  have j6 : ∀ p, (p = true → c.Kind = 1 ∨ c.Kind = 5) → Sat (pantomimeref15_more_j6 N c p) fun b => b = true → MoreOk c := by
    intro p hp
    have other : ∀ {m : Option Bool}, c.Kind ≠ 8 → c.Kind ≠ 10 → Tot m → Sat m fun b => b = true → MoreOk c := fun h8 h10 h => h.mono fun _ _ _ => ⟨fun e => absurd e h8, fun e => absurd e h10⟩
    unfold pantomimeref15_more_j6
    refine sat_cond (fun h => other (by rcases hp h with e | e <;> omega) (by rcases hp h with e | e <;> omega) (tot_some _)) fun _ => ?_
    refine sat_dec (fun hk => other (by omega) (by omega) ?_) fun _ => ?_
    · refine tot_bindP (p := 1 < c.More.length) (sat_dec (fun h => at_tot (i := 0) (by omega) (fun v => num_tot N v _ _) (by omega)) fun _ => sat_some fun h => by cases h) fun b hb => tot_bind (tot_and fun h => tot_at (i := 1) (hb h) fun v => tot_bind (none_tot N v 9) fun _ => tot_some _) fun _ => tot_some _
    refine sat_dec (fun hk => other (by omega) (by omega) ?_) fun _ => ?_
    · refine tot_bindP (p := 0 < c.More.length) (sat_dec (fun h => sat_some fun _ => by omega) fun _ => sat_some fun h => by cases h) fun b hb => tot_bind (tot_and fun h => tot_at (i := 0) (hb h) fun v => tot_bind (none_tot N v 9) fun _ => tot_some _) fun _ => tot_some _
    refine sat_dec (fun hk => other (by omega) (by omega) ?_) fun _ => ?_
    · refine tot_bindP (p := 1 < c.More.length) (sat_dec (fun h => at_tot (i := 0) (by omega) (fun v => num_tot N v _ _) (by omega)) fun _ => sat_some fun h => by cases h) fun b hb => tot_bind (tot_and fun h => tot_at (i := 1) (hb h) fun v => tot_bind (none_tot N v 9) fun _ => tot_some _) fun _ => tot_some _
    refine sat_dec (fun hk => other (by omega) (by omega) ?_) fun _ => ?_
    · refine tot_bindP (p := 3 < c.More.length) (sat_dec (fun h => at_tot (i := 2) (by omega) (fun v => num_tot N v _ _) (by omega)) fun _ => sat_some fun h => by cases h) fun b hb => tot_bind (tot_and fun h => tot_at (i := 3) (hb h) fun v => tot_bind (num_tot N v _ _) fun _ => tot_some _) fun _ => tot_some _
    refine sat_dec (fun hk => ?_) fun hk8 => ?_
    · obtain ⟨b, -, h2, h3⟩ := entries_eq N hN 2 (.inl rfl) c.More hc
      have h2' : pantomimeref15_entries_O N c.More 2 = some b := h2
      rw [h2', bs]
      exact sat_some fun hb => ⟨fun _ => h3 hb, fun e => absurd e (by omega)⟩
    refine sat_dec (fun hk => ?_) fun hk10 => ?_
    · refine Sat.bind (P := fun b => b = true → 1 ≤ c.More.length) (sat_dec (fun h => ?_) fun _ => sat_some fun h => by cases h) fun b hb => ?_
      · rw [show ((0 : Int)) = ((0 : Nat) : Int) from rfl, getE_n (by omega), bs]; exact sat_some fun _ => by omega
      · refine Sat.bind (P := fun b => b = true → MoreOk c) (sat_cond (fun h => ?_) fun _ => sat_some fun h => by cases h) fun b' hb' => sat_some hb'
        have h1 := hb h
        rw [req_pos ⟨by omega, by show (1 : Int).toNat ≤ _; exact h1, Nat.le_refl _⟩]
        have hl : ((c.More.drop ((1 : Int).toNat)).take (c.More.length - (1 : Int).toNat)).length = c.More.length - 1 := by
          rw [List.length_take, List.length_drop]; show min (c.More.length - 1) (c.More.length - 1) = _; omega
        obtain ⟨b2, -, h2, h3⟩ := entries_eq N hN 4 (.inr rfl) ((c.More.drop ((1 : Int).toNat)).take (c.More.length - (1 : Int).toNat)) (by rw [hl]; omega)
        have h2' : pantomimeref15_entries_O N ((c.More.drop ((1 : Int).toNat)).take (c.More.length - (1 : Int).toNat)) 4 = some b2 := h2
        rw [h2', bs]
        exact sat_some fun hb2 => ⟨fun e => absurd e (by omega), fun _ => ⟨h1, by have := h3 hb2; rw [hl] at this; exact this⟩⟩
    refine sat_dec (fun hk => other (by omega) (by omega) ?_) fun _ => other hk8 hk10 (tot_some _)
    refine tot_bind ?_ fun _ => tot_some _
    exact tot_bif (fun h => tot_at (i := 0) (by have := of_decide_eq_true h; omega) fun v => tot_bind (num_tot N v _ _) fun _ => tot_some _) fun _ => tot_some _
  unfold pantomimeref15_more_O
  refine sat_dec (fun _ => sat_some fun h => by cases h) fun _ => sat_dec (fun hk => sat_some fun _ => ⟨fun e => absurd e (by omega), fun e => absurd e (by omega)⟩) fun _ => sat_dec (fun hk => j6 _ fun _ => .inl hk) fun _ => j6 _ fun h => .inr (of_decide_eq_true h)
theorem right_tot (N : Nat) (hN : 2000 < N) (c : DCell) (hS : c.Slots.length ≤ 1000) (hc : c.More.length ≤ 1000) : Sat (pantomimeref15_Right_O N c) fun b => b = true → MoreOk c := by
  obtain ⟨b1, g1, -⟩ := right_slots N hN c hS hc N 0 (by omega) (by omega)
  have g1' : pantomimeref15_Right_l12 N c N 0 = (bif b1 then pantomimeref15_Right_j19 N c else some false) := g1
  have hj : Sat (pantomimeref15_Right_j19 N c) fun b => b = true → MoreOk c := by
    unfold pantomimeref15_Right_j19
    refine Sat.bind (slots_tot N c) fun y _ => ?_
    refine Sat.bind (P := fun b => b = true → MoreOk c) (sat_cond (fun _ => Sat.bind (more_tot N hN c hc) fun _ h => sat_some h) fun _ => sat_some fun h => by cases h) fun _ h => sat_some h
  unfold pantomimeref15_Right_O
  rw [g1']
  iterate 6 refine Sat.bind (P := fun _ => True) (tot_bif (fun _ => tot_some _) fun _ => tot_some _) fun _ _ => ?_
  refine sat_cond (fun _ => sat_some fun h => by cases h) fun _ => sat_cond (fun _ => hj) fun _ => sat_some fun h => by cases h
end Go.Proofs.YtmbaennilhdieaaGreat

/- Plain: cleaned weak maps, bare registries, equal values. -/
namespace Go.Proofs.YtmbaennilhdieaaGreat
open Go.RowKit

/-- the entries whose keys are kept -/
def cleanL (p : Int → Bool) : List DValue → List DValue
  | k :: v :: r => (bif p k.N then [k, v] else []) ++ cleanL p r
  | _ => []
theorem cleanL_len (p : Int → Bool) : ∀ l : List DValue, (cleanL p l).length ≤ l.length
  | [] => by simp [cleanL]
  | [_] => by simp [cleanL]
  | k :: v :: r => by
    have := cleanL_len p r
    unfold cleanL
    cases p k.N <;> simp <;> omega
theorem cleanL_mem {p : Int → Bool} {x : DValue} : ∀ {l : List DValue}, x ∈ cleanL p l → x ∈ l
  | [], h => by simp [cleanL] at h
  | [_], h => by simp [cleanL] at h
  | k :: v :: r, h => by
    unfold cleanL at h
    rcases List.mem_append.1 h with h | h
    · cases hp : p k.N with
      | false => rw [hp] at h; cases h
      | true => rw [hp] at h; simp at h; rcases h with h | h <;> simp [h]
    · have := cleanL_mem h; simp [this]
def cleanW (N : Nat) (l : List Int) (c : DCell) : DCell := bif isWM N c then ⟨c.Kind, c.Shape, c.Flags, c.Age, c.Slots, cleanL (fun x => decide (x ∈ l)) c.More⟩ else c
theorem kept_body (N : Nat) (hN : 5000 < N) (l : List Int) (hl : l.length ≤ 5000) (y : DCell) (k v : DValue) (s : List DValue) (hs : s.length ≤ 5000) : liftR (fun x st => weak_kept_b12 N (fun x => weak_Clean_c1_O N x l) y x st) (k, v) (none, s) = some (true, (none, s ++ (bif decide (k.N ∈ l) then [k, v] else []))) := by
  unfold liftR weak_kept_b12 weak_Clean_c1_O
  simp only [bs, contains_prog N hN l hl]
  cases decide (k.N ∈ l)
  · simp only [cf, List.append_nil]; rfl
  · simp only [ct]
    rw [rF (by simp; omega)]
    rfl
theorem kept_loop (N : Nat) (hN : 5000 < N) (l : List Int) (hl : l.length ≤ 5000) (y c : DCell) (hc : c.More.length ≤ 1000) (he : c.More.length % 2 = 0) : ∀ (m i : Nat) (s : List DValue), c.More.length < m + i → i ≤ c.More.length → i % 2 = 0 → s.length ≤ i → weak_entries_c1_l4 N (liftR (fun x st => weak_kept_b12 N (fun x => weak_Clean_c1_O N x l) y x st)) c m (i : Int) (none, s) = some (none, s ++ cleanL (fun x => decide (x ∈ l)) (c.More.drop i))
  | 0, i, s, h, h2, _, _ => by omega
  | m + 1, i, s, h, h2, h3, h4 => by
    rw [weak_entries_c1_l4_s, r64 (a := (i : Int) + 1) (by omega) (by omega)]
    by_cases hi : i < c.More.length
    · have hi1 : i + 1 < c.More.length := by omega
      have hl1 : getE c.More ((i : Int) + 1) = some c.More[i + 1] := by
        have := getE_n hi1
        simpa using this
      rw [lt_t (by omega), ct, getE_n hi, bs, r64 (a := (i : Int) + 1) (by omega) (by omega), hl1, bs, kept_body N hN l hl y _ _ s (by omega), bs]
      simp only [nt, cf]
      rw [r64 (by omega) (by omega)]
      have hlen : (s ++ (bif decide (c.More[i].N ∈ l) then [c.More[i], c.More[i + 1]] else [])).length ≤ i + 2 := by
        cases decide (c.More[i].N ∈ l) <;> simp <;> omega
      have := kept_loop N hN l hl y c hc he m (i + 2) _ (by omega) (by omega) (by omega) hlen
      simp only [Int.natCast_add, Int.cast_ofNat_Int] at this
      rw [this, List.drop_eq_getElem_cons hi, List.drop_eq_getElem_cons hi1, List.append_assoc]; rfl
    · rw [lt_f (by omega), cf, List.drop_eq_nil_of_le (by omega)]
      simp [cleanL]
theorem clean_prog (N : Nat) (hN : 5000 < N) (l : List Int) (hl : l.length ≤ 5000) (c : DCell) (hS : c.Slots.length ≤ 600) (hc : c.More.length ≤ 600) : weak_Clean_O N c l = some (bif isWM N c then cleanW N l c else zeroC) := by
  obtain ⟨-, h1, h2⟩ := is_ref N (by omega) c (by omega) (by omega)
  unfold weak_Clean_O weak_kept_O weak_entries_c1_O cleanW
  rw [h1, bs]
  cases hw : isWM N c
  · rfl
  · have e : weak_entries_O N c = some () := rfl
    have := kept_loop N hN l hl c c (by omega) (h2 hw) N 0 [] (by omega) (by omega) rfl (by simp)
    simp only [nt, cf, ct, e, bs, copy_spec N c ⟨hS, hc⟩]
    have h3 : weak_entries_c1_l4 N (liftR (fun x st => weak_kept_b12 N (fun x => weak_Clean_c1_O N x l) c x st)) c N 0 (none, []) = some (none, [] ++ cleanL (fun x => decide (x ∈ l)) (c.More.drop 0)) := this
    rw [h3, bs]
    rfl
theorem cleaned_prog (N : Nat) (hN : 5000 < N) (l : List Int) (hl : l.length ≤ 5000) (c : DCell) (hS : c.Slots.length ≤ 600) (hc : c.More.length ≤ 600) : reach_cleaned_O N c l = some (cleanW N l c) := by
  have h0 := clean_prog N hN l hl c hS hc
  unfold reach_cleaned_O
  rw [h0, right_eq N (by omega) c (by omega) (by omega)]
  unfold cleanW isWM
  obtain ⟨b, hb, -⟩ := right_tot N (by omega) c (by omega) (by omega)
  rw [hb]
  cases decide (c.Kind = 8) <;> cases b <;> rfl
theorem cleanW_len (N : Nat) (l : List Int) (c : DCell) : (cleanW N l c).Slots.length = c.Slots.length ∧ (cleanW N l c).More.length ≤ c.More.length := by
  unfold cleanW
  cases isWM N c
  · exact ⟨rfl, Nat.le_refl _⟩
  · exact ⟨rfl, cleanL_len _ _⟩
theorem cleanW_mem {N : Nat} {l : List Int} {c : DCell} {v : DValue} (h : v ∈ (cleanW N l c).Slots ++ (cleanW N l c).More) : v ∈ c.Slots ++ c.More := by
  unfold cleanW at h
  cases hw : isWM N c
  · rw [hw] at h; exact h
  · rw [hw] at h
    rcases List.mem_append.1 h with h | h
    · exact List.mem_append_left _ h
    · exact List.mem_append_right _ (cleanL_mem h)
/-- valid registries -/
def isFR (N : Nat) (c : DCell) : Bool := decide (c.Kind = 10) && (pantomimeref15_Right_O N c).getD false
def bareC (N : Nat) (c : DCell) : DCell := bif isFR N c then ⟨c.Kind, c.Shape, c.Flags, c.Age, c.Slots, c.More.take 1⟩ else c
theorem bareC_len (N : Nat) (c : DCell) : (bareC N c).Slots.length = c.Slots.length ∧ (bareC N c).More.length ≤ c.More.length := by
  unfold bareC
  cases isFR N c
  · exact ⟨rfl, Nat.le_refl _⟩
  · exact ⟨rfl, by show (c.More.take 1).length ≤ _; rw [List.length_take]; omega⟩
theorem bareC_mem {N : Nat} {c : DCell} {v : DValue} (h : v ∈ (bareC N c).Slots ++ (bareC N c).More) : v ∈ c.Slots ++ c.More := by
  unfold bareC at h
  cases hw : isFR N c
  · rw [hw] at h; exact h
  · rw [hw] at h
    rcases List.mem_append.1 h with h | h
    · exact List.mem_append_left _ h
    · exact List.mem_append_right _ (List.mem_of_mem_take h)
theorem bare_row (N : Nat) (hN : 5000 < N) (l : List DCell) (hl : l.length ≤ 1000) (hc : ∀ c ∈ l, c.Slots.length ≤ 600 ∧ c.More.length ≤ 600) : reach_bare_c1_O N l = some (l.map (bareC N)) := by
  apply Sat.eq
  unfold reach_bare_c1_O slices_Clone_125_O
  rw [rF (by simp; omega), bs, List.nil_append]
  refine loop_inv (fun k i (s : List DCell) => reach_bare_c1_l6 N l k s (i : Int)) l.length (fun i s => s = (l.take i).map (bareC N) ++ l.drop i) _ ?_ ?_ N 0 l (by omega) (by omega) (by simp)
  · rintro k i s hi h1 go
    show Sat (reach_bare_c1_l6 N l (k + 1) s (i : Int)) _
    have hci := hc l[i] (List.getElem_mem _)
    have hsl : s.length = l.length := by rw [h1]; simp; omega
    have hg : getE s (i : Int) = some l[i] := by
      have h2 : s[i]'(by omega) = l[i] := by
        subst h1
        rw [List.getElem_append_right (by simp; omega)]
        simp [Nat.min_eq_left (Nat.le_of_lt hi)]
      rw [getE_n (by omega), h2]
    have hset : ∀ d, s.set i d = (l.take i).map (bareC N) ++ d :: l.drop (i + 1) := fun d => by
      have hlen : ((l.take i).map (bareC N)).length = i := by rw [List.length_map, List.length_take]; omega
      rw [h1, List.set_append_right _ _ (by omega), hlen, Nat.sub_self, List.drop_eq_getElem_cons hi]; rfl
    have hnext : ∀ d, d = bareC N l[i] → (l.take i).map (bareC N) ++ d :: l.drop (i + 1) = (l.take (i + 1)).map (bareC N) ++ l.drop (i + 1) := fun d e => by
      rw [take_succ_get hi, e, List.map_append, List.append_assoc]; rfl
    rw [reach_bare_c1_l6_s, lt_t (by omega), ct, hg, bs, right_eq N (by omega) _ (by omega) (by omega)]
    obtain ⟨b, hb, hb2⟩ := right_tot N (by omega) l[i] (by omega) (by omega)
    rw [hb]
    unfold reach_bare_c1_j10
    rw [r64 (a := (i : Int) + 1) (by omega) (by omega)]
    have he : ((bif decide (l[i].Kind = 10) then ((some b).bind fun y17 => some y17) else some false) : Option Bool) = some (isFR N l[i]) := by
      unfold isFR; rw [hb]; cases decide (l[i].Kind = 10) <;> cases b <;> rfl
    rw [he, bs]
    cases hw : isFR N l[i]
    · rw [cf]
      refine go s ?_
      rw [← hnext l[i] (by unfold bareC; rw [hw]; rfl), h1, List.drop_eq_getElem_cons hi]
    · rw [ct]
      have hb1 : b = true ∧ l[i].Kind = 10 := by
        unfold isFR at hw; rw [hb] at hw
        cases b <;> simp at hw
        exact ⟨rfl, hw⟩
      have h1m := ((hb2 hb1.1).2 hb1.2).1
      rw [req_pos ⟨by omega, by omega, by show (1 : Int).toNat ≤ _; exact h1m⟩, bs, r64 (a := (i : Int) + 1) (by omega) (by omega), Int.toNat_natCast, hset]
      refine go _ (hnext _ ?_)
      unfold bareC; rw [hw]; rfl
  · rintro k s h1
    show Sat (reach_bare_c1_l6 N l (k + 1) s _) _
    rw [reach_bare_c1_l6_s, lt_f (by omega), cf]
    unfold reach_bare_c1_j4
    exact sat_some (by rw [h1]; simp)
def bareM (N : Nat) (m : DMemory) : DMemory := ⟨m.Young.map (bareC N), m.Old.map (bareC N)⟩
theorem Small.cell {m : DMemory} {roots : List DValue} (hs : Small m roots) {c : DCell} (h : c ∈ m.Young ++ m.Old) : c.Slots.length ≤ 600 ∧ c.More.length ≤ 600 := hs.cells c h
theorem bare_prog (N : Nat) (hN : 5000 < N) {m : DMemory} {roots : List DValue} (hs : Small m roots) : reach_bare_O N m = some (bareM N m) := by
  have h1 := hs.young
  have h2 := hs.old
  unfold reach_bare_O
  rw [bare_row N hN m.Young (by omega) fun c hc => hs.cell (List.mem_append_left _ hc), bs, bare_row N hN m.Old (by omega) fun c hc => hs.cell (List.mem_append_right _ hc), bs]; rfl
theorem Small.bare {m : DMemory} {roots : List DValue} (hs : Small m roots) (N : Nat) : Small (bareM N m) roots := by
  refine ⟨by unfold bareM; simpa using hs.young, by unfold bareM; simpa using hs.old, hs.roots, fun c hc => ?_⟩
  unfold bareM at hc
  rw [← List.map_append] at hc
  obtain ⟨d, hd, rfl⟩ := List.mem_map.1 hc
  have h1 := hs.cell hd
  have h2 := bareC_len N d
  omega
theorem W64.bare {m : DMemory} (hw : W64 m) (N : Nat) : W64 (bareM N m) := fun c hc v hv => by
  unfold bareM at hc
  rw [← List.map_append] at hc
  obtain ⟨d, hd, rfl⟩ := List.mem_map.1 hc
  exact hw d hd v (bareC_mem hv)
theorem in64_of {m : DMemory} {roots : List DValue} (hs : Small m roots) {x : Int} (h : hasM m x = true) : in64 x := by
  have h2 := hasM_pos h
  have h3 := hasM_le hs h
  unfold in64; omega
end Go.Proofs.YtmbaennilhdieaaGreat

/- Plain: Alike holds where both sides are traversed alike and hold the same cells. -/
namespace Go.Proofs.YtmbaennilhdieaaGreat
open Go.RowKit

theorem addr_prog (N : Nat) (v : DValue) : reach_address_O N v = some (v.N, hasB v) := by
  unfold reach_address_O; rw [kind_has, bs]
end Go.Proofs.YtmbaennilhdieaaGreat

/- Plain: sorted addresses, the examples, small memories. -/
namespace Go.Proofs.YtmbaennilhdieaaGreat
open Go.RowKit

theorem sortL_mem (l : List Int) (x : Int) : x ∈ sortL l ↔ x ∈ l := by unfold sortL; exact List.mem_mergeSort
theorem sortL_asc {l : List Int} (h : l.Nodup) : (sortL l).Pairwise (· < ·) := by
  have h1 : (sortL l).Pairwise fun a b => decide (a ≤ b) = true := List.pairwise_mergeSort (by intro a b c h1 h2; simp at *; omega) (by intro a b; simp; omega) l
  have h2 : (sortL l).Nodup := (List.mergeSort_perm l _).nodup_iff.2 h
  rw [List.nodup_iff_pairwise_ne] at h2
  exact h1.imp₂ (fun a b h3 h4 => by simp at h3; omega) h2
theorem sortL_eq {l s : List Int} (h : l.Nodup) (hs : s.Pairwise (· < ·)) (he : ∀ x, x ∈ l ↔ x ∈ s) : sortL l = s := asc_ext (sortL_asc h) hs fun x => (sortL_mem l x).trans (he x)
theorem sort_spec (N : Nat) (l : List Int) (h : l.length ≤ 5000) : slices_Sort_O N l = some (sortL l) := by
  unfold slices_Sort_O; rw [rF (by omega)]
theorem values_spec (N : Nat) (l : List Int) (hl : l.length ≤ 2000) : ∀ (m i : Nat) (s : List Int), l.length < m + i → i ≤ l.length → s.length ≤ i → slices_Values_l3 N (liftR (fun x st => slices_AppendSeq_V_b5 N x st)) l m (i : Int) (none, s) = some (none, s ++ l.drop i)
  | 0, i, s, h, h2, _ => by omega
  | m + 1, i, s, h, h2, h3 => by
    rw [slices_Values_l3_s]
    by_cases hi : i < l.length
    · have e : liftR (fun x st => slices_AppendSeq_V_b5 N x st) l[i] (none, s) = some (true, (none, s ++ [l[i]])) := by
        unfold liftR slices_AppendSeq_V_b5
        simp only
        rw [rF (by simp; omega)]
        rfl
      rw [lt_t (by omega), ct, getE_n hi, bs, e, bs]
      simp only [nt, cf]
      rw [r64 (by omega) (by omega)]
      have := values_spec N l hl m (i + 1) (s ++ [l[i]]) (by omega) hi (by simp; omega)
      simp only [Int.natCast_add, Int.cast_ofNat_Int] at this
      rw [this, List.drop_eq_getElem_cons hi, List.append_assoc]; rfl
    · rw [lt_f (by omega), cf, List.drop_eq_nil_of_le (by omega)]
      simp
theorem sorted_spec (N : Nat) (hN : 5000 < N) (l : List Int) (hl : l.length ≤ 2000) : slices_Sorted_V_O N l = some (sortL l) := by
  have h := values_spec N l hl N 0 [] (by omega) (by omega) (by simp)
  have h' : slices_Values_l3 N (liftR (fun x st => slices_AppendSeq_V_b5 N x st)) l N 0 (none, []) = some (none, [] ++ l.drop 0) := h
  have e1 : slices_AppendSeq_V_O N [] l = some l := by
    unfold slices_AppendSeq_V_O slices_Values_O
    rw [h', bs]; rfl
  unfold slices_Sorted_V_O slices_Collect_V_O
  rw [e1, bs, bs, sort_spec N l (by omega), bs]

def obj (n : Int) : DValue := ⟨7, n, ⟨#[]⟩⟩
def boxC' (l : List DValue) : DCell := ⟨11, 0, 0, 0, [], l⟩
def exM : DMemory := ⟨[⟨11, 0, 0, 0, [], [⟨7, 3, ⟨#[]⟩⟩, ⟨7, 2, ⟨#[]⟩⟩]⟩, ⟨11, 0, 0, 0, [], []⟩], [⟨11, 0, 0, 0, [], []⟩]⟩
def exW : DMemory := ⟨[⟨8, 0, 0, 0, [⟨1, 0, ⟨#[]⟩⟩], [⟨7, 3, ⟨#[]⟩⟩, ⟨7, 5, ⟨#[]⟩⟩]⟩, ⟨11, 0, 0, 0, [], []⟩, ⟨11, 0, 0, 0, [], []⟩], []⟩
theorem g1 : reach_Order_O 6000 exM [⟨7, 1, ⟨#[]⟩⟩] = some [1, 3, 2] := by kernel_rfl
theorem g2 : reach_Order_O 6000 exW [⟨7, 1, ⟨#[]⟩⟩] = some [1] := by kernel_rfl
theorem g3 : reach_Order_O 6000 exW [⟨7, 1, ⟨#[]⟩⟩, ⟨7, 3, ⟨#[]⟩⟩] = some [1, 3, 5] := by kernel_rfl
theorem g4 : reach_begin_O 6000 exW [⟨7, 1, ⟨#[]⟩⟩, ⟨7, 3, ⟨#[]⟩⟩] = some ⟨exW, [1, 3], [(1, ()), (3, ())], 2⟩ := by kernel_rfl
theorem live_of {N : Nat} {m : DMemory} {roots : List DValue} {l s : List Int} (h : reach_Order_O N m roots = some l) (hl : l.length ≤ 5000) (hs : sortL l = s) : reach_Live_O N m roots = some s := by
  unfold reach_Live_O
  rw [h, bs, sort_spec N l hl, bs, hs]
theorem goes_true : pantomimelaw19_goes_O 6000 = some true := by
  have l1 : reach_Live_O 6000 exM [⟨7, 1, ⟨#[]⟩⟩] = some [1, 2, 3] := live_of g1 (by decide) (sortL_eq (by decide) (by decide) (by intro x; simp; omega))
  have l2 : reach_Live_O 6000 exW [⟨7, 1, ⟨#[]⟩⟩] = some [1] := live_of g2 (by decide) (sortL_eq (by decide) (by decide) (by intro x; simp))
  have l3 : reach_Live_O 6000 exW [⟨7, 1, ⟨#[]⟩⟩, ⟨7, 3, ⟨#[]⟩⟩] = some [1, 3, 5] := live_of g3 (by decide) (sortL_eq (by decide) (by decide) (by intro x; simp))
  have l4 : reach_Strong_O 6000 exW [⟨7, 1, ⟨#[]⟩⟩, ⟨7, 3, ⟨#[]⟩⟩] = some [1, 3] := by
    unfold reach_Strong_O slices_Values_61_O
    rw [g4, bs, bs, sorted_spec 6000 (by decide) _ (by decide), bs]
    exact congrArg some (sortL_eq (by decide) (by decide) (by intro x; simp))
  have s1 : pantomimeref19_Same_O 6000 [1, 3, 2] [1, 3, 2] = some true := by kernel_rfl
  have s2 : pantomimeref19_Same_O 6000 [1, 2, 3] [1, 2, 3] = some true := by kernel_rfl
  have s3 : pantomimeref19_Same_O 6000 [1] [1] = some true := by kernel_rfl
  have s4 : pantomimeref19_Same_O 6000 [1, 3, 5] [1, 3, 5] = some true := by kernel_rfl
  have s5 : pantomimeref19_Same_O 6000 [1, 3] [1, 3] = some true := by kernel_rfl
  have o : ∀ n, pantomimelaw19_object_O 6000 n = some ⟨7, n, ⟨#[]⟩⟩ := fun _ => rfl
  have g1' := g1
  unfold exM at g1' l1
  unfold exW at l2 l3 l4
  unfold pantomimelaw19_goes_O
  simp only [o, bs, g1', l1, l2, l3, l4, s1, s2, s3, s4, s5, ct]
end Go.Proofs.YtmbaennilhdieaaGreat

/- Plain: the reference's traversal is the one of the relation. -/
namespace Go.Proofs.YtmbaennilhdieaaGreat
open Go.RowKit

/-- what the reference has discovered -/
structure Tq (m : DMemory) (all : List Int) : Prop where
  nd : all.Nodup
  has : ∀ x ∈ all, hasM m x = true
theorem Tq.len {m : DMemory} {roots : List DValue} (hs : Small m roots) {all : List Int} (h : Tq m all) : all.length ≤ 1200 := nodup_le 1200 h.nd fun x hx => ⟨by have := hasM_pos (h.has x hx); omega, by have := hasM_le hs (h.has x hx); omega⟩
theorem Tq.in64 {m : DMemory} {roots : List DValue} (hs : Small m roots) {all : List Int} (h : Tq m all) {x : Int} (hx : x ∈ all) : in64 x := by
  have h1 := hasM_pos (h.has x hx)
  have h2 := hasM_le hs (h.has x hx)
  unfold Go.Proofs.YtmbaennilhdieaaGreat.in64; omega
theorem Tq.lay {m : DMemory} {all : List Int} (h : Tq m all) (l : List Int) : Tq m (layL (hasM m) all l) := ⟨layL_nodup l h.nd, fun x hx => (layL_new hx).elim (h.has x) (·.1)⟩
theorem rlay_fun (N : Nat) {m : DMemory} {roots : List DValue} (hN : 5000 < N) (hs : Small m roots) (l : List Int) (hl : l.length ≤ 2000) (h64 : ∀ x ∈ l, in64 x) {all : List Int} (ht : Tq m all) : pantomimeref19_lay_O N m all l = some (layL (hasM m) all l) := by
  apply Sat.eq
  unfold pantomimeref19_lay_O
  refine loop_inv (fun k i (s : List Int) => pantomimeref19_lay_l8 N l m k s (i : Int)) l.length (fun i s => Tq m s ∧ s = layL (hasM m) all (l.take i)) _ ?_ ?_ N 0 all (by omega) (by omega) ⟨ht, rfl⟩
  · rintro k i s hi ⟨h0, h1⟩ go
    show Sat (pantomimeref19_lay_l8 N l m (k + 1) s (i : Int)) _
    have hx64 := h64 l[i] (List.getElem_mem _)
    have hsl := h0.len hs
    have hnext : layL (hasM m) all (l.take (i + 1)) = (bif hasM m l[i] && !decide (l[i] ∈ s) then s ++ [l[i]] else s) := by
      rw [take_succ_get hi, layL_two, ← h1]; rfl
    have hT : Tq m (layL (hasM m) all (l.take (i + 1))) := ht.lay _
    rw [pantomimeref19_lay_l8_s, lt_t (by omega), ct]
    simp only [getE_n hi, bs, has_ref N m _ hx64, in19 N hN s (by omega) l[i]]
    unfold pantomimeref19_lay_j12
    cases hh : hasM m l[i]
    · simp only [cf, bs]
      rw [r64 (by omega) (by omega)]
      exact go s ⟨h0, by rw [hnext, hh]; rfl⟩
    · simp only [ct, bs]
      by_cases hm : l[i] ∈ s
      · rw [decide_eq_true hm]
        simp only [nt, cf]
        rw [r64 (by omega) (by omega)]
        exact go s ⟨h0, by rw [hnext, hh, decide_eq_true hm]; rfl⟩
      · have e : layL (hasM m) all (l.take (i + 1)) = s ++ [l[i]] := by rw [hnext, hh, decide_eq_false hm]; rfl
        rw [decide_eq_false hm]
        simp only [nf, ct]
        rw [rF (by simp; omega), r64 (by omega) (by omega)]
        exact go (s ++ [l[i]]) ⟨e ▸ hT, e.symm⟩
  · rintro k s ⟨h0, h1⟩
    show Sat (pantomimeref19_lay_l8 N l m (k + 1) s _) _
    rw [pantomimeref19_lay_l8_s, lt_f (by omega), cf]
    exact sat_some (by simpa using h1)
theorem raddr_fun (N : Nat) (hN : 5000 < N) (l : List DValue) (hl : l.length ≤ 2000) : pantomimeref19_addresses_O N l = some (addrL l) := by
  apply Sat.eq
  unfold pantomimeref19_addresses_O
  refine loop_inv (fun k i (s : List Int) => pantomimeref19_addresses_l5 N l k s (i : Int)) l.length (fun i s => s = addrL (l.take i)) _ ?_ ?_ N 0 [] (by omega) (by omega) rfl
  · rintro k i s hi h1 go
    show Sat (pantomimeref19_addresses_l5 N l (k + 1) s (i : Int)) _
    have hsl : s.length ≤ 2000 := by
      rw [h1]; unfold addrL; rw [List.length_map]
      exact Nat.le_trans (List.length_filter_le _ _) (by rw [List.length_take]; omega)
    have hnext : addrL (l.take (i + 1)) = s ++ addrL [l[i]] := by rw [take_succ_get hi, addrL_app, h1]
    rw [pantomimeref19_addresses_l5_s, lt_t (by omega), ct]
    simp only [getE_n hi, bs, kind_has]
    unfold pantomimeref19_addresses_j9
    cases hb : hasB l[i]
    · simp only [cf]
      rw [r64 (by omega) (by omega)]
      exact go s (by rw [hnext]; simp [addrL, hb])
    · simp only [ct]
      rw [rF (by simp; omega), r64 (by omega) (by omega)]
      exact go (s ++ [l[i].N]) (by rw [hnext]; simp [addrL, hb])
  · rintro k s h1
    show Sat (pantomimeref19_addresses_l5 N l (k + 1) s _) _
    rw [pantomimeref19_addresses_l5_s, lt_f (by omega), cf]
    exact sat_some (by simpa using h1)
theorem rthrough_fun (N : Nat) (hN : 5000 < N) {m : DMemory} {roots : List DValue} (hs : Small m roots) (hw : W64 m) {all : List Int} (ht : Tq m all) (k : Nat) (hk : k ≤ all.length) :
    Sat (pantomimeref19_through_O N m all (k : Int)) fun r => Tq m r ∧ Thr (grM N m) all k r := by
  unfold pantomimeref19_through_O
  refine loop_dec (fun f (s : List Int × Nat) => pantomimeref19_through_l7 N m f s.1 (s.2 : Int)) (fun s => 1300 - s.2) (fun s => Tq m s.1 ∧ s.2 ≤ s.1.length ∧ ∀ r, Thr (grM N m) s.1 s.2 r → Thr (grM N m) all k r) _ ?_ N (all, k) (by show 1300 - k < N; omega) ⟨ht, hk, fun _ h => h⟩
  rintro f ⟨al, j⟩ ⟨h1, h3, h4⟩ go
  show Sat (pantomimeref19_through_l7 N m (f + 1) al (j : Int)) _
  simp only at h1 h3 h4
  have hlen := h1.len hs
  rw [pantomimeref19_through_l7_s]
  by_cases hj : j < al.length
  · have hx := List.getElem_mem hj
    have hsm := hs.at_ al[j]
    obtain ⟨hl1, hl2⟩ := leads_ok hs hw al[j]
    rw [lt_t (by omega), ct, getE_n hj, bs, at_ref N m _ (h1.in64 hs hx), bs, leads_ref N (by omega) _ (by omega) (by omega), bs, rlay_fun N hN hs _ hl1 hl2 h1, bs, r64 (by omega) (by omega)]
    have hge : al.length ≤ (layL (hasM m) al (leadsL (atM m al[j]))).length := by
      obtain ⟨t, e, -⟩ := layL_app (hasM m) al (leadsL (atM m al[j]))
      rw [e, List.length_append]; omega
    exact go (layL (hasM m) al (leadsL (atM m al[j])), j + 1) (by show 1300 - (j + 1) < 1300 - j; omega) ⟨h1.lay _, by show j + 1 ≤ (layL (hasM m) al (leadsL (atM m al[j]))).length; omega, fun r hr => h4 r (.step (List.getElem?_eq_getElem hj) hr)⟩
  · have : j = al.length := by omega
    subst this
    rw [lt_f (by omega), cf]
    exact sat_some ⟨h1, h4 _ (.done (Nat.le_refl _))⟩
theorem rorder_fun (N : Nat) (hN : 5000 < N) {m : DMemory} {roots : List DValue} (hs : Small m roots) (hw : W64 m) (hr : ∀ v ∈ roots, in64 v.N) :
    ∃ b all, IsOrder (grM N m) (addrL roots) b all ∧ pantomimeref19_Order_O N m roots = some all ∧ ((pantomimeref19_addresses_O N roots).bind fun y5 => (pantomimeref19_lay_O N m ([] : List Int) y5).bind fun y8 => pantomimeref19_through_O N m y8 0) = some b := by
  have hrl := hs.roots
  have ha := raddr_fun N hN roots (by omega)
  have h64 : ∀ x ∈ addrL roots, in64 x := fun x hx => by
    obtain ⟨v, h1, -, rfl⟩ := addrL_mem.1 hx
    exact hr v h1
  have hal : (addrL roots).length ≤ 2000 := by
    unfold addrL; rw [List.length_map]; exact Nat.le_trans (List.length_filter_le _ _) (by omega)
  have hT0 : Tq m [] := ⟨List.nodup_nil, by simp⟩
  have hlay := rlay_fun N hN hs (addrL roots) hal h64 hT0
  obtain ⟨b, b0, b1, b2⟩ := rthrough_fun N hN hs hw (hT0.lay (addrL roots)) 0 (Nat.zero_le _)
  have b0' : pantomimeref19_through_O N m (layL (hasM m) [] (addrL roots)) 0 = some b := b0
  have key : Sat (pantomimeref19_Order_O N m roots) fun all => Ord (grM N m) b all := by
    unfold pantomimeref19_Order_O
    rw [ha, bs, hlay, bs, b0', bs]
    refine loop_dec (fun f (s : List Int) => pantomimeref19_Order_l12 N m f s) (fun s => 1300 - s.length) (fun s => Tq m s ∧ ∀ r, Ord (grM N m) s r → Ord (grM N m) b r) _ ?_ N b (by show 1300 - b.length < N; omega) ⟨b1, fun _ h => h⟩
    rintro f al ⟨h4, h5⟩ go
    show Sat (pantomimeref19_Order_l12 N m (f + 1) al) _
    have hlen := h4.len hs
    rw [pantomimeref19_Order_l12_s]
    refine loop_inv (fun k i (s : List Int) => pantomimeref19_Order_l16 N (pantomimeref19_Order_l12 N m f) al m k s (i : Int)) al.length (fun i s => Tq m s ∧ (∃ t, s = al ++ t) ∧ s = passL (grM N m) al (al.take i)) _ ?_ ?_ N 0 al (by omega) (by omega) ⟨h4, ⟨[], by simp⟩, rfl⟩
    · rintro k i s hi ⟨h0, ⟨t, h1⟩, h2⟩ go2
      show Sat (pantomimeref19_Order_l16 N (pantomimeref19_Order_l12 N m f) al m (k + 1) s (i : Int)) _
      have hsl := h0.len hs
      have hg : getE s (i : Int) = some al[i] := by
        rw [getE_nat, h1, List.getElem?_append_left hi, List.getElem?_eq_getElem hi]
      have hx := List.getElem_mem hi
      have hsm := hs.at_ al[i]
      obtain ⟨hl1, hl2⟩ := opens_ok N hs hw al[i] s
      have hnext : passL (grM N m) al (al.take (i + 1)) = layL (hasM m) s (opensL N (atM m al[i]) s) := by
        rw [take_succ_get hi, passL_two, ← h2]; rfl
      rw [pantomimeref19_Order_l16_s, lt_t (by omega), ct, hg, bs, at_ref N m _ (h4.in64 hs hx), bs, opens_ref N hN s (by omega) _ (by omega) (by omega), bs, rlay_fun N hN hs _ hl1 hl2 h0, bs, r64 (by omega) (by omega)]
      obtain ⟨t', e', -⟩ := layL_app (hasM m) s (opensL N (atM m al[i]) s)
      exact go2 _ ⟨h0.lay _, ⟨t ++ t', by rw [e', h1, List.append_assoc]⟩, hnext.symm⟩
    · rintro k s ⟨h0, ⟨t, h1⟩, h2⟩
      show Sat (pantomimeref19_Order_l16 N (pantomimeref19_Order_l12 N m f) al m (k + 1) s _) _
      have hsl := h0.len hs
      simp only [List.take_length] at h2
      rw [pantomimeref19_Order_l16_s, lt_f (by omega), cf]
      unfold pantomimeref19_Order_j14
      refine sat_dec (fun he => ?_) fun hne => ?_
      · have h6 : t = [] := List.eq_nil_of_length_eq_zero (by rw [h1, List.length_append] at he; omega)
        have h7 : s = al := by rw [h1, h6, List.append_nil]
        exact sat_some (by rw [h7] at h2 ⊢; exact h5 _ (.done h2.symm))
      · have hle : al.length ≤ s.length := by rw [h1, List.length_append]; omega
        refine Sat.bind (rthrough_fun N hN hs hw h0 al.length hle) fun r ⟨r1, r2⟩ => ?_
        obtain ⟨t3, e3⟩ := r2.app
        have hl3 := r1.len hs
        refine go r ?_ ⟨r1, fun r' hr' => h5 r' (.step ?_ (by rw [← h2]; exact r2) hr')⟩
        · show 1300 - r.length < 1300 - al.length
          have : s.length ≤ r.length := by rw [e3, List.length_append]; omega
          omega
        · rw [← h2]; intro e; rw [e] at hne; omega
  obtain ⟨all, k1, k2⟩ := key
  exact ⟨b, all, ⟨b2, k2⟩, k1, by rw [ha, bs, hlay, bs]; exact b0'⟩
end Go.Proofs.YtmbaennilhdieaaGreat

/- Plain: the reference's sorted copies. -/
namespace Go.Proofs.YtmbaennilhdieaaGreat
open Go.RowKit

/-- sorted up to i, but for the place k -/
def Ins (s : List Int) (i k : Nat) : Prop := ∀ a b : Nat, a < b → b ≤ i → b ≠ k → s.getD a 0 ≤ s.getD b 0
end Go.Proofs.YtmbaennilhdieaaGreat

/- Plain tools for translated loops: all, folds, equal lists. Over any program. -/
namespace Go.Proofs.YtmbaennilhdieaaGreat
open Go.RowKit

/-- a loop that asks of each element, then goes on with k -/
theorem loop_allk {α ρ : Type} (L : Nat → Int → Option ρ) (l : List α) (p : α → Bool) (bad k : Option ρ)
    (step : ∀ m (i : Nat) (h : i < l.length), L (m + 1) (i : Int) = bif p l[i] then L m ((i : Int) + 1) else bad)
    (fin : ∀ m, L (m + 1) (l.length : Int) = k) (N : Nat) (hN : l.length < N) : L N 0 = bif l.all p then k else bad := by
  have key : ∀ m i : Nat, l.length < m + i → i ≤ l.length → L m (i : Int) = bif (l.drop i).all p then k else bad := by
    intro m
    induction m with
    | zero => intro i h1 h2; omega
    | succ m ih =>
      intro i h1 h2
      by_cases hi : i < l.length
      · rw [step m i hi, List.drop_eq_getElem_cons hi, List.all_cons]
        have h3 := ih (i + 1) (by omega) hi
        rw [show (((i + 1 : Nat)) : Int) = (i : Int) + 1 by omega] at h3
        rw [h3]
        cases p l[i] <;> rfl
      · have e : i = l.length := by omega
        subst e
        rw [fin, List.drop_length]; rfl
  have := key N 0 (by omega) (by omega)
  simpa using this
theorem loop_all {α : Type} (L : Nat → Int → Option Bool) (l : List α) (p : α → Bool)
    (step : ∀ m (i : Nat) (h : i < l.length), L (m + 1) (i : Int) = bif p l[i] then L m ((i : Int) + 1) else some false)
    (fin : ∀ m, L (m + 1) (l.length : Int) = some true) (N : Nat) (hN : l.length < N) : L N 0 = some (l.all p) := by
  rw [loop_allk L l p _ _ step fin N hN]; cases l.all p <;> rfl
/-- pairs at the same places, with the lengths compared first -/
theorem zip_loop {α β : Type} (L : Nat → Int → Option Bool) (a : List α) (b : List β) (p : α × β → Bool)
    (step : ∀ m (i : Nat) (h : i < a.length) (h' : i < b.length), L (m + 1) (i : Int) = bif p (a[i], b[i]) then L m ((i : Int) + 1) else some false)
    (fin : ∀ m, L (m + 1) (a.length : Int) = some true) (N : Nat) (hN : a.length < N) : (bif !decide ((a.length : Int) = (b.length : Int)) then some false else L N 0) = some (decide (a.length = b.length) && (a.zip b).all p) := by
  by_cases hl : a.length = b.length
  · have hz : (a.zip b).length = a.length := by rw [List.length_zip]; omega
    rw [decide_eq_true (p := ((a.length : Int) = (b.length : Int))) (by omega), nt, cf, decide_eq_true hl, Bool.true_and]
    refine loop_all L (a.zip b) p (fun m i h => ?_) (fun m => by rw [hz]; exact fin m) N (by omega)
    rw [List.getElem_zip]
    exact step m i (by omega) (by omega)
  · rw [decide_eq_false (p := ((a.length : Int) = (b.length : Int))) (by omega), nf, ct, decide_eq_false hl]; rfl
theorem zip_swap_all {α β : Type} (p : α × β → Bool) (q : β × α → Bool) (h : ∀ x y, p (x, y) = q (y, x)) : ∀ (a : List α) (b : List β), (a.zip b).all p = (b.zip a).all q
  | [], b => by simp
  | _ :: _, [] => by simp
  | x :: a, y :: b => by rw [List.zip_cons_cons, List.zip_cons_cons, List.all_cons, List.all_cons, h, zip_swap_all p q h a b]
theorem zip_refl_all {α : Type} (p : α × α → Bool) : ∀ (a : List α), (∀ x ∈ a, p (x, x) = true) → (a.zip a).all p = true
  | [], _ => rfl
  | x :: a, h => by rw [List.zip_cons_cons, List.all_cons, h x (by simp), zip_refl_all p a fun y hy => h y (by simp [hy])]; rfl
/-! maps as lists -/
def upR {α β : Type} [DecidableEq α] (a : α) (b : β) : List (α × β) → List (α × β)
  | [] => [(a, b)]
  | p :: l => if p.1 = a then (a, b) :: l else p :: upR a b l
theorem upL_upR {α β : Type} [DecidableEq α] (L : List (α × β)) (a : α) (b : β) : upL L a b = upR a b L := by
  have key : ∀ (L : List (α × β)) (j : Nat), (∃ i c, fp a L j = some (i, c) ∧ j ≤ i ∧ L.set (i - j) (a, b) = upR a b L) ∨ (fp a L j = none ∧ L ++ [(a, b)] = upR a b L) := by
    intro L
    induction L with
    | nil => intro j; exact .inr ⟨rfl, rfl⟩
    | cons p l ih =>
      intro j
      obtain ⟨x, y⟩ := p
      by_cases e : a = x
      · refine .inl ⟨j, y, by simp [fp, e], Nat.le_refl _, ?_⟩
        rw [Nat.sub_self]; simp [upR, e]
      · have e' : ¬ x = a := fun h => e h.symm
        rcases ih (j + 1) with ⟨i, c, h1, h2, h3⟩ | ⟨h1, h2⟩
        · refine .inl ⟨i, c, by simp [fp, e, h1], by omega, ?_⟩
          rw [show i - j = (i - (j + 1)) + 1 by omega, List.set_cons_succ, h3]
          simp [upR, e']
        · exact .inr ⟨by simp [fp, e, h1], by simp [upR, e', h2]⟩
  unfold upL
  rcases key L 0 with ⟨i, c, h1, -, h3⟩ | ⟨h1, h2⟩
  · rw [h1]; exact h3
  · rw [h1]; exact h2
theorem lk_cons {α β : Type} [DecidableEq α] (p : α × β) (l : List (α × β)) (x : α) : lk (p :: l) x = if p.1 = x then some p.2 else lk l x := by
  unfold lk
  rw [List.find?_cons]
  by_cases e : p.1 = x <;> simp [e]
theorem lk_up {α β : Type} [DecidableEq α] (L : List (α × β)) (a : α) (b : β) (x : α) : lk (upL L a b) x = if a = x then some b else lk L x := by
  rw [upL_upR]
  induction L with
  | nil => rw [upR, lk_cons]
  | cons p l ih =>
    unfold upR
    by_cases e : p.1 = a
    · rw [if_pos e, lk_cons, lk_cons, e]
      by_cases e2 : a = x <;> simp [e2]
    · rw [if_neg e, lk_cons, lk_cons, ih]
      by_cases e2 : p.1 = x
      · rw [if_pos e2, if_pos e2, if_neg (fun h => e (by rw [e2, h]))]
      · rw [if_neg e2, if_neg e2]
theorem lk_app {α β : Type} [DecidableEq α] (L : List (α × β)) (a : α) (b : β) (x : α) (h : a ≠ x) : lk (L ++ [(a, b)]) x = lk L x := by
  induction L with
  | nil => rw [List.nil_append, lk_cons, if_neg h]
  | cons p l ih => rw [List.cons_append, lk_cons, lk_cons, ih]
end Go.Proofs.YtmbaennilhdieaaGreat

/- Plain: weak references; equal lists, cells, memories; valid memories, on both sides. -/
namespace Go.Proofs.YtmbaennilhdieaaGreat
open Go.RowKit

def weaklyL (c : DCell) : List Int := pick (fun i v => weakB c.Kind i && hasB v) 0 c.More
/-- valid memories -/
def wholeB (m : DMemory) (l : List Int) : Bool := l.all (hasM m)
def fineC (N : Nat) (m : DMemory) (c : DCell) : Bool := (pantomimeref15_Right_O N c).getD false && (wholeB m (leadsL c) && wholeB m (weaklyL c))
def rightM (N : Nat) (m : DMemory) (roots : List DValue) : Bool := m.Young.all (fineC N m) && (m.Old.all (fineC N m) && wholeB m (addrL roots))
end Go.Proofs.YtmbaennilhdieaaGreat

/- Plain: when two sides correspond. -/
namespace Go.Proofs.YtmbaennilhdieaaGreat
open Go.RowKit

/-- whether two values correspond: A and B are the orders of the two sides, ha and hb their cells -/
def corr (ha hb : Int → Bool) (A B : List Int) (v w : DValue) : Bool :=
  bif !hasB v || !hasB w then decide (v = w)
  else decide (v.Kind = w.Kind) && (v.S.toList == w.S.toList) && (bif !decide (v.N ∈ A) || !decide (w.N ∈ B) then !decide (v.N ∈ A) && !decide (w.N ∈ B) && (ha v.N == hb w.N) else decide (A.idxOf v.N = B.idxOf w.N))
def corrL (ha hb : Int → Bool) (A B : List Int) (x y : List DValue) : Bool := decide (x.length = y.length) && (x.zip y).all fun p => corr ha hb A B p.1 p.2
def corrC (ha hb : Int → Bool) (A B : List Int) (c d : DCell) : Bool := decide (c.Kind = d.Kind) && decide (c.Shape = d.Shape) && decide (c.Flags = d.Flags) && corrL ha hb A B c.Slots d.Slots && corrL ha hb A B c.More d.More
/-- the sides are a and b, both bare -/
def alikeS (N : Nat) (a : DMemory) (x : List DValue) (A : List Int) (b : DMemory) (y : List DValue) (B : List Int) : Bool :=
  decide (A.length = B.length) && corrL (hasM a) (hasM b) A B x y && (A.zip B).all fun p => corrC (hasM a) (hasM b) A B (cleanW N A (atM a p.1)) (cleanW N B (atM b p.2))
theorem dec_symm {α : Type} [DecidableEq α] (x y : α) : decide (x = y) = decide (y = x) := by
  by_cases h : x = y
  · rw [decide_eq_true h, decide_eq_true h.symm]
  · rw [decide_eq_false h, decide_eq_false fun e => h e.symm]
theorem beq_symm' {α : Type} [BEq α] [LawfulBEq α] (x y : α) : (x == y) = (y == x) := by
  by_cases h : x = y
  · subst h; rfl
  · rw [beq_eq_false_iff_ne.2 h, beq_eq_false_iff_ne.2 fun e => h e.symm]
theorem corr_symm (ha hb : Int → Bool) (A B : List Int) (v w : DValue) : corr ha hb A B v w = corr hb ha B A w v := by
  unfold corr
  rw [dec_symm v w, dec_symm v.Kind w.Kind, beq_symm' v.S.toList w.S.toList, dec_symm (A.idxOf v.N), beq_symm' (ha v.N)]
  cases hasB v <;> cases hasB w <;> cases decide (v.N ∈ A) <;> cases decide (w.N ∈ B) <;> rfl
theorem corrL_symm (ha hb : Int → Bool) (A B : List Int) (x y : List DValue) : corrL ha hb A B x y = corrL hb ha B A y x := by
  unfold corrL
  rw [dec_symm x.length, zip_swap_all _ (fun p => corr hb ha B A p.1 p.2) (fun v w => corr_symm ha hb A B v w)]
theorem corrC_symm (ha hb : Int → Bool) (A B : List Int) (c d : DCell) : corrC ha hb A B c d = corrC hb ha B A d c := by
  unfold corrC
  rw [dec_symm c.Kind, dec_symm c.Shape, dec_symm c.Flags, corrL_symm ha hb A B c.Slots, corrL_symm ha hb A B c.More]
theorem alikeS_symm (N : Nat) (a : DMemory) (x : List DValue) (A : List Int) (b : DMemory) (y : List DValue) (B : List Int) : alikeS N a x A b y B = alikeS N b y B a x A := by
  unfold alikeS
  rw [dec_symm A.length, corrL_symm, zip_swap_all _ (fun p => corrC (hasM b) (hasM a) B A (cleanW N B (atM b p.1)) (cleanW N A (atM a p.2))) (fun v w => corrC_symm _ _ A B _ _)]
theorem corr_refl (ha : Int → Bool) (A : List Int) (v : DValue) : corr ha ha A A v v = true := by
  unfold corr
  rw [decide_eq_true (p := v = v) rfl, decide_eq_true (p := v.Kind = v.Kind) rfl, beq_self_eq_true, beq_self_eq_true, decide_eq_true (p := A.idxOf v.N = A.idxOf v.N) rfl]
  cases hasB v <;> cases decide (v.N ∈ A) <;> rfl
theorem corrL_refl (ha : Int → Bool) (A : List Int) (x : List DValue) : corrL ha ha A A x x = true := by
  unfold corrL
  rw [decide_eq_true (p := x.length = x.length) rfl, zip_refl_all _ x fun v _ => corr_refl ha A v]; rfl
theorem corrC_refl (ha : Int → Bool) (A : List Int) (c : DCell) : corrC ha ha A A c c = true := by
  unfold corrC
  rw [decide_eq_true (p := c.Kind = c.Kind) rfl, decide_eq_true (p := c.Shape = c.Shape) rfl, decide_eq_true (p := c.Flags = c.Flags) rfl, corrL_refl, corrL_refl]; rfl
theorem alikeS_refl (N : Nat) (a : DMemory) (x : List DValue) (A : List Int) : alikeS N a x A a x A = true := by
  unfold alikeS
  rw [decide_eq_true (p := A.length = A.length) rfl, corrL_refl, zip_refl_all _ A fun v _ => corrC_refl (hasM a) A _]; rfl
/-- positions as the program keeps them -/
def PosM (kv : List (Int × Int)) (l : List Int) : Prop := ∀ x, lk kv x = if x ∈ l then some (l.idxOf x : Int) else none
theorem lk_ent (kv : List (Int × Int)) (a z x : Int) (h : a ≠ x) : lk (entL kv a z) x = lk kv x := by
  unfold entL
  cases fp a kv 0 with
  | some _ => rfl
  | none => exact lk_app kv a z x h
theorem PosM.nil : PosM [] [] := fun x => rfl
theorem PosM.add {kv : List (Int × Int)} {l : List Int} {i : Nat} {L : List Int} (hi : i < L.length) (hl : l = L.take i) (h : PosM kv l) (hn : L.Nodup) : PosM (upL (entL kv L[i] 0) L[i] (i : Int)) (L.take (i + 1)) := by
  intro x
  have hlen : l.length = i := by rw [hl, List.length_take]; omega
  have hni : L[i] ∉ l := by
    rw [hl]
    intro hm
    obtain ⟨j, hj, e⟩ := List.getElem_of_mem hm
    rw [List.length_take] at hj
    rw [List.getElem_take] at e
    exact List.pairwise_iff_getElem.1 (List.nodup_iff_pairwise_ne.1 hn) j i (by omega) hi (by omega) e
  rw [lk_up, take_succ_get hi, ← hl, List.idxOf_append]
  by_cases e : L[i] = x
  · rw [if_pos e, ← e, if_pos (List.mem_append_right _ (by simp)), if_neg hni]
    simp [hlen]
  · rw [if_neg e, lk_ent _ _ _ _ e, h x]
    by_cases hm : x ∈ l
    · rw [if_pos hm, if_pos (List.mem_append_left _ hm), if_pos hm]
    · rw [if_neg hm, if_neg (by simp [hm]; exact fun h => e h.symm)]
/-- the program's comparison of values -/
theorem value_prog (N : Nat) (t : DTwins) (A B : List Int) (hA : PosM t.from_ A) (hB : PosM t.to_ B) (v w : DValue) (h1 : in64 v.N) (h2 : in64 w.N) : reach_twins_value_O N t v w = some (corr (hasM t.a_) (hasM t.b_) A B v w) := by
  unfold reach_twins_value_O corr
  simp only [addr_prog, bs, has_prog N _ _ h1, has_prog N _ _ h2, hA v.N, hB w.N]
  have eA : (if v.N ∈ A then some ((A.idxOf v.N : Nat) : Int) else none).isSome = decide (v.N ∈ A) := by
    by_cases h : v.N ∈ A <;> simp [h]
  have eB : (if w.N ∈ B then some ((B.idxOf w.N : Nat) : Int) else none).isSome = decide (w.N ∈ B) := by
    by_cases h : w.N ∈ B <;> simp [h]
  have eD : v.N ∈ A → w.N ∈ B → decide ((if v.N ∈ A then some ((A.idxOf v.N : Nat) : Int) else none).getD 0 = (if w.N ∈ B then some ((B.idxOf w.N : Nat) : Int) else none).getD 0) = decide (A.idxOf v.N = B.idxOf w.N) := fun g1 g2 => by
    rw [if_pos g1, if_pos g2]
    show decide (((A.idxOf v.N : Nat) : Int) = ((B.idxOf w.N : Nat) : Int)) = _
    by_cases h : A.idxOf v.N = B.idxOf w.N
    · rw [decide_eq_true h, decide_eq_true (by omega)]
    · rw [decide_eq_false h, decide_eq_false (by omega)]
  rw [eA, eB]
  by_cases g1 : v.N ∈ A <;> by_cases g2 : w.N ∈ B
  · rw [eD g1 g2, decide_eq_true g1, decide_eq_true g2]
    cases hasB v <;> cases hasB w <;> cases decide (v.Kind = w.Kind) <;> cases (v.S.toList == w.S.toList) <;> rfl
  · rw [decide_eq_true g1, decide_eq_false g2]
    cases hasB v <;> cases hasB w <;> cases decide (v.Kind = w.Kind) <;> cases (v.S.toList == w.S.toList) <;> rfl
  · rw [decide_eq_false g1, decide_eq_true g2]
    cases hasB v <;> cases hasB w <;> cases decide (v.Kind = w.Kind) <;> cases (v.S.toList == w.S.toList) <;> rfl
  · rw [decide_eq_false g1, decide_eq_false g2]
    cases hasB v <;> cases hasB w <;> cases decide (v.Kind = w.Kind) <;> cases (v.S.toList == w.S.toList) <;> rfl
theorem values_prog (N : Nat) (t : DTwins) (A B : List Int) (hA : PosM t.from_ A) (hB : PosM t.to_ B) (x y : List DValue) (hx : x.length < N) (hx2 : x.length ≤ 5000) (h1 : ∀ v ∈ x, in64 v.N) (h2 : ∀ v ∈ y, in64 v.N) : reach_twins_values_O N t x y = some (corrL (hasM t.a_) (hasM t.b_) A B x y) := by
  unfold reach_twins_values_O slices_EqualFunc_O
  have := zip_loop (fun k i => slices_EqualFunc_l5 N (fun x => reach_twins_value_O N t x.1 x.2) x y k i) x y (fun p => corr (hasM t.a_) (hasM t.b_) A B p.1 p.2) (fun k i h h' => ?_) (fun k => ?_) N hx
  · rw [this, bs]; rfl
  · rw [slices_EqualFunc_l5_s, lt_t (by omega), ct, getE_n h, bs, getE_n h', bs]
    simp only
    rw [value_prog N t A B hA hB _ _ (h1 _ (List.getElem_mem _)) (h2 _ (List.getElem_mem _)), bs, r64 (by omega) (by omega)]
    cases corr (hasM t.a_) (hasM t.b_) A B x[i] y[i] <;> rfl
  · rw [slices_EqualFunc_l5_s, lt_f (by omega), cf]; rfl
/-- what is known of a side -/
structure SideOk (m : DMemory) (x : List DValue) (A : List Int) : Prop where
  small : Small m x
  w64 : W64 m
  x64 : ∀ v ∈ x, in64 v.N
  len : A.length ≤ 1200
  nd : A.Nodup
  has : ∀ a ∈ A, hasM m a = true
theorem SideOk.in64 {m : DMemory} {x : List DValue} {A : List Int} (h : SideOk m x A) {a : Int} (ha : a ∈ A) : Go.Proofs.YtmbaennilhdieaaGreat.in64 a := in64_of h.small (h.has a ha)
theorem SideOk.cell {m : DMemory} {x : List DValue} {A : List Int} (h : SideOk m x A) (N : Nat) (a : Int) : ((atM m a).Slots.length ≤ 600 ∧ (atM m a).More.length ≤ 600) ∧ ((cleanW N A (atM m a)).Slots.length ≤ 600 ∧ (cleanW N A (atM m a)).More.length ≤ 600) ∧ (∀ v ∈ (cleanW N A (atM m a)).Slots, Go.Proofs.YtmbaennilhdieaaGreat.in64 v.N) ∧ ∀ v ∈ (cleanW N A (atM m a)).More, Go.Proofs.YtmbaennilhdieaaGreat.in64 v.N := by
  have h1 := h.small.at_ a
  have h2 := cleanW_len N A (atM m a)
  exact ⟨h1, by omega, fun v hv => h.w64.at_ _ v (cleanW_mem (List.mem_append_left _ hv)), fun v hv => h.w64.at_ _ v (cleanW_mem (List.mem_append_right _ hv))⟩
/-- the program's Alike, behind the orders of the two sides -/
theorem alike_prog (N : Nat) (hN : 5000 < N) {a b A B : DMemory} {x y : List DValue} {LA LB : List Int} (ba : reach_bare_O N a = some A) (bb : reach_bare_O N b = some B) (sA : SideOk A x LA) (sB : SideOk B y LB) (oa : reach_Order_O N A x = some LA) (ob : reach_Order_O N B y = some LB) : reach_Alike_O N a x b y = some (alikeS N A x LA B y LB) := by
  apply Sat.eq
  have hA := sA.len; have hB := sB.len; have hx := sA.small.roots; have hy := sB.small.roots
  unfold reach_Alike_O
  rw [ba, bs, bb, bs, oa, bs, ob, bs]
  by_cases hl : ¬ LA.length = LB.length
  · rw [decide_eq_false (by omega)]
    exact sat_some (by unfold alikeS; rw [decide_eq_false hl]; rfl)
  replace hl : LA.length = LB.length := by omega
  rw [decide_eq_true (by omega)]
  simp only [nt, cf]
  refine loop_inv (fun k i (s : List (Int × Int) × List (Int × Int)) => reach_Alike_l33 N LA x y A B LB k (i : Int) s.1 s.2) LA.length (fun i s => PosM s.1 (LA.take i) ∧ PosM s.2 (LB.take i)) _ ?_ ?_ N 0 ([], []) (by omega) (by omega) ⟨PosM.nil, PosM.nil⟩
  · rintro k i ⟨p, q⟩ hi ⟨h1, h2⟩ go
    simp only at h1 h2
    show Sat (reach_Alike_l33 N LA x y A B LB (k + 1) (i : Int) p q) _
    rw [reach_Alike_l33_s, lt_t (by omega), ct, getE_n hi, bs, getE_n (by omega), bs, r64 (by omega) (by omega)]
    exact go (_, _) ⟨h1.add hi rfl sA.nd, h2.add (by omega) rfl sB.nd⟩
  · rintro k ⟨p, q⟩ ⟨h1, h2⟩
    simp only at h1 h2
    rw [List.take_length] at h1
    rw [hl, List.take_length] at h2
    show Sat (reach_Alike_l33 N LA x y A B LB (k + 1) _ p q) _
    rw [reach_Alike_l33_s, lt_f (by omega), cf]
    unfold reach_Alike_j30
    rw [values_prog N _ LA LB h1 h2 x y (by omega) (by omega) sA.x64 sB.x64, bs]
    have hz : (LA.zip LB).length = LA.length := by rw [List.length_zip]; omega
    have hloop : reach_Alike_l46 N LA p q N 0 A.Young A.Old B.Young B.Old LA LB = some ((LA.zip LB).all fun p => corrC (hasM A) (hasM B) LA LB (cleanW N LA (atM A p.1)) (cleanW N LB (atM B p.2))) := by
      refine loop_all (fun k i => reach_Alike_l46 N LA p q k i A.Young A.Old B.Young B.Old LA LB) (LA.zip LB) _ (fun k i h => ?_) (fun k => ?_) N (by omega)
      · have hi : i < LA.length := by omega
        have hi' : i < LB.length := by omega
        obtain ⟨c1, c2, c3, c4⟩ := sA.cell N LA[i]
        obtain ⟨d1, d2, d3, d4⟩ := sB.cell N LB[i]
        have e1 : reach_At_O N ⟨A.Young, A.Old⟩ LA[i] = some (atM A LA[i]) := at_prog N sA.small _ (sA.in64 (List.getElem_mem _))
        have e2 : reach_At_O N ⟨B.Young, B.Old⟩ LB[i] = some (atM B LB[i]) := at_prog N sB.small _ (sB.in64 (List.getElem_mem _))
        rw [reach_Alike_l46_s, lt_t (by omega), ct, getE_n hi, bs, e1, bs, cleaned_prog N hN LA (by omega) _ c1.1 c1.2, bs, getE_n hi', bs, e2, bs, cleaned_prog N hN LB (by omega) _ d1.1 d1.2, bs, List.getElem_zip]
        simp only
        generalize cleanW N LA (atM A LA[i]) = c at *
        generalize cleanW N LB (atM B LB[i]) = d at *
        rw [values_prog N _ LA LB h1 h2 c.Slots d.Slots (by omega) (by omega) c3 d3, values_prog N _ LA LB h1 h2 c.More d.More (by omega) (by omega) c4 d4, r64 (by omega) (by omega)]
        unfold corrC
        simp only [bs]
        cases decide (c.Kind = d.Kind) <;> cases decide (c.Shape = d.Shape) <;> cases decide (c.Flags = d.Flags) <;> cases corrL (hasM A) (hasM B) LA LB c.Slots d.Slots <;> cases corrL (hasM A) (hasM B) LA LB c.More d.More <;> rfl
      · show reach_Alike_l46 N LA p q (k + 1) _ A.Young A.Old B.Young B.Old LA LB = _
        rw [hz, reach_Alike_l46_s, lt_f (by omega), cf]; rfl
    rw [hloop]
    refine sat_not (fun h => sat_some ?_) fun h => sat_some ?_
    · have h' : corrL (hasM A) (hasM B) LA LB x y = false := h
      unfold alikeS; rw [h', Bool.and_false]; rfl
    · have h' : corrL (hasM A) (hasM B) LA LB x y = true := h
      unfold alikeS; rw [h', decide_eq_true hl]; rfl
end Go.Proofs.YtmbaennilhdieaaGreat

/- Plain: the reference's Alike. -/
namespace Go.Proofs.YtmbaennilhdieaaGreat
open Go.RowKit

theorem place_ref (N : Nat) (x : Int) (l : List Int) (hl : l.length < N) (hl2 : l.length ≤ 5000) : pantomimeref19_place_O N l x = some (if x ∈ l then ((l.idxOf x : Nat) : Int) else -1) := by
  have key : ∀ k i : Nat, l.length < k + i → i ≤ l.length → pantomimeref19_place_l3 N x l k (i : Int) = some (if x ∈ l.drop i then (((i + (l.drop i).idxOf x : Nat)) : Int) else -1) := by
    intro k
    induction k with
    | zero => intro i h1 h2; omega
    | succ k ih =>
      intro i h1 h2
      rw [pantomimeref19_place_l3_s]
      by_cases hi : i < l.length
      · have h3 := ih (i + 1) (by omega) hi
        rw [show (((i + 1 : Nat)) : Int) = (i : Int) + 1 by omega] at h3
        rw [lt_t (by omega), ct, getE_n hi, bs, List.drop_eq_getElem_cons hi, r64 (by omega) (by omega), h3, List.idxOf_cons]
        by_cases e : l[i] = x
        · rw [decide_eq_true e, ct, if_pos (by simp [e]), beq_iff_eq.2 e, cond_true, Nat.add_zero]
        · rw [decide_eq_false e, cf]
          by_cases hm : x ∈ l.drop (i + 1)
          · rw [if_pos hm, if_pos (List.mem_cons_of_mem _ hm), beq_eq_false_iff_ne.2 e, cond_false, show i + 1 + (l.drop (i + 1)).idxOf x = i + ((l.drop (i + 1)).idxOf x + 1) by omega]
          · rw [if_neg hm, if_neg (fun h => (List.mem_cons.1 h).elim (fun h => e h.symm) hm)]
      · rw [lt_f (by omega), cf, List.drop_eq_nil_of_le (by omega)]; rfl
  have := key N 0 (by omega) (by omega)
  unfold pantomimeref19_place_O
  simpa using this
theorem hasB_kind {v w : DValue} (h : v.Kind = w.Kind) : hasB v = hasB w := by unfold hasB; rw [h]
theorem values_ref (N : Nat) (a b : DSide) (hA : a.Order.length < N) (hA2 : a.Order.length ≤ 5000) (hB : b.Order.length < N) (hB2 : b.Order.length ≤ 5000) (hs1 : ∀ x ∈ a.Order, hasM a.M x = true) (hs2 : ∀ x ∈ b.Order, hasM b.M x = true) (x y : List DValue) (hx : x.length < N) (hx2 : x.length ≤ 5000) (h1 : ∀ v ∈ x, in64 v.N) (h2 : ∀ v ∈ y, in64 v.N) : pantomimeref19_values_O N a x b y = some (corrL (hasM a.M) (hasM b.M) a.Order b.Order x y) := by
  unfold pantomimeref19_values_O corrL
  refine zip_loop (fun k i => pantomimeref19_values_l13 N x y a b k i) x y (fun p => corr (hasM a.M) (hasM b.M) a.Order b.Order p.1 p.2) (fun k i h h' => ?_) (fun k => ?_) N hx
  · rw [pantomimeref19_values_l13_s, lt_t (by omega), ct, getE_n h, getE_n h']
    simp only [bs]
    have g1 := h1 x[i] (List.getElem_mem _)
    have g2 := h2 y[i] (List.getElem_mem _)
    generalize x[i] = v at *
    generalize y[i] = w at *
    rw [kind_has v]
    simp only [bs, has_ref N _ _ g1, has_ref N _ _ g2, place_ref N v.N a.Order hA hA2, place_ref N w.N b.Order hB hB2]
    rw [r64 (by omega) (by omega)]
    unfold corr
    cases q1 : hasB v
    · simp only [cf, nf, ct, bs, Bool.true_or]
      cases decide (v = w) <;> rfl
    · cases q2 : hasB w
      · have hk : v.Kind ≠ w.Kind := fun e => by rw [hasB_kind e, q2] at q1; cases q1
        have hne : v ≠ w := fun e => hk (by rw [e])
        rw [decide_eq_false hk, decide_eq_false hne]
        rfl
      · simp only [nt, cf, bs, ct, Bool.or_self]
        cases decide (v.Kind = w.Kind)
        · rfl
        · cases (v.S.toList == w.S.toList)
          · rfl
          · simp only [nt, cf, bs, Bool.true_and]
            by_cases m1 : v.N ∈ a.Order <;> by_cases m2 : w.N ∈ b.Order
            · rw [hs1 _ m1, hs2 _ m2, if_pos m1, if_pos m2, decide_eq_true m1, decide_eq_true m2]
              have e : decide (((a.Order.idxOf v.N : Nat) : Int) = ((b.Order.idxOf w.N : Nat) : Int)) = decide (a.Order.idxOf v.N = b.Order.idxOf w.N) := by
                by_cases e : a.Order.idxOf v.N = b.Order.idxOf w.N
                · rw [decide_eq_true e, decide_eq_true (by omega)]
                · rw [decide_eq_false e, decide_eq_false (by omega)]
              rw [e]
              cases decide (a.Order.idxOf v.N = b.Order.idxOf w.N) <;> rfl
            · rw [hs1 _ m1, if_pos m1, if_neg m2, decide_eq_true m1, decide_eq_false m2]
              rw [decide_eq_false (p := ((a.Order.idxOf v.N : Nat) : Int) = -1) (by omega)]
              cases hasM b.M w.N <;> rfl
            · rw [hs2 _ m2, if_neg m1, if_pos m2, decide_eq_false m1, decide_eq_true m2]
              rw [decide_eq_false (p := (-1 : Int) = ((b.Order.idxOf w.N : Nat) : Int)) (by omega)]
              cases hasM a.M v.N <;> rfl
            · rw [if_neg m1, if_neg m2, decide_eq_false m1, decide_eq_false m2]
              rw [decide_eq_true (p := (-1 : Int) = -1) rfl]
              cases hasM a.M v.N <;> cases hasM b.M w.N <;> rfl
  · show pantomimeref19_values_l13 N x y a b (k + 1) _ = _
    rw [pantomimeref19_values_l13_s, lt_f (by omega), cf]; rfl
/-- the reference's weak maps without dead entries -/
def keepL (p : Int → Bool) : List DValue → List Bool
  | k :: _ :: r => p k.N :: keepL p r
  | _ => []
theorem keepL_len (p : Int → Bool) : ∀ l : List DValue, l.length % 2 = 0 → 2 * (keepL p l).length = l.length
  | [], _ => rfl
  | [_], h => by simp at h
  | k :: v :: r, h => by
    have := keepL_len p r (by simp at h; omega)
    simp [keepL]; omega
theorem rkeep_loop (N : Nat) (hN : 5000 < N) (l : List Int) (hl : l.length ≤ 5000) (c : DCell) (hc : c.More.length ≤ 1000) (he : c.More.length % 2 = 0) : ∀ (m i : Nat) (s : List Bool), c.More.length < m + i → i ≤ c.More.length → i % 2 = 0 → s.length ≤ i → pantomimeref17_Clean_l12 N l c m s (i : Int) = pantomimeref17_Clean_j10 N c (s ++ keepL (fun x => decide (x ∈ l)) (c.More.drop i))
  | 0, i, s, h, h2, _, _ => by omega
  | m + 1, i, s, h, h2, h3, h4 => by
    rw [pantomimeref17_Clean_l12_s]
    by_cases hi : i < c.More.length
    · have hi1 : i + 1 < c.More.length := by omega
      rw [lt_t (by omega), ct, getE_n hi, bs, in17 N hN l hl, bs, rF (by simp; omega), r64 (by omega) (by omega)]
      have := rkeep_loop N hN l hl c hc he m (i + 2) (s ++ [decide (c.More[i].N ∈ l)]) (by omega) (by omega) (by omega) (by simp; omega)
      rw [show (((i + 2 : Nat)) : Int) = (i : Int) + 2 by omega] at this
      rw [this, List.drop_eq_getElem_cons hi, List.drop_eq_getElem_cons hi1, List.append_assoc]; rfl
    · rw [lt_f (by omega), cf, List.drop_eq_nil_of_le (by omega)]
      simp [keepL]
theorem keepL_at (p : Int → Bool) : ∀ (l : List DValue) (j : Nat) (h : 2 * j + 1 < l.length), (keepL p l)[j]? = some (p (l[2 * j]'(by omega)).N)
  | k :: v :: r, 0, _ => rfl
  | k :: v :: r, j + 1, h => by
    have := keepL_at p r j (by simp at h; omega)
    simp only [keepL, List.getElem?_cons_succ]
    rw [this]
    simp only [show 2 * (j + 1) = 2 * j + 1 + 1 by omega, List.getElem_cons_succ]
  | [_], j, h => by simp at h
  | [], j, h => by simp at h
theorem rwithout_loop (N : Nat) (p : Int → Bool) (c y : DCell) (hc : c.More.length ≤ 1000) (he : c.More.length % 2 = 0) (hN : 5000 < N) : ∀ (m j : Nat) (s : List DValue), c.More.length < 2 * (m + j) → 2 * j ≤ c.More.length → s.length ≤ 2 * j → pantomimeref17_without_l12 N (keepL p c.More) c y m (j : Int) s = pantomimeref17_without_j10 N y (s ++ cleanL p (c.More.drop (2 * j)))
  | 0, j, s, h, h2, _ => by omega
  | m + 1, j, s, h, h2, h3 => by
    have hk := keepL_len p c.More he
    rw [pantomimeref17_without_l12_s]
    by_cases hj : 2 * j < c.More.length
    · have hj1 : 2 * j + 1 < c.More.length := by omega
      have hjk : j < (keepL p c.More).length := by omega
      have e0 := keepL_at p c.More j hj1
      rw [List.getElem?_eq_getElem hjk, Option.some.injEq] at e0
      rw [lt_t (by omega), ct, getE_n hjk, bs, e0]
      have g0 : getE c.More (2 * (j : Int)) = some c.More[2 * j] := by
        have := getE_n hj; rwa [show (((2 * j : Nat)) : Int) = 2 * (j : Int) by omega] at this
      have g1 : getE c.More (2 * (j : Int) + 1) = some c.More[2 * j + 1] := by
        have := getE_n hj1; rwa [show (((2 * j + 1 : Nat)) : Int) = 2 * (j : Int) + 1 by omega] at this
      unfold pantomimeref17_without_j17
      have step := fun s' (hs' : s'.length ≤ 2 * (j + 1)) => rwithout_loop N p c y hc he hN m (j + 1) s' (by omega) (by omega) hs'
      rw [show (((j + 1 : Nat)) : Int) = (j : Int) + 1 by omega] at step
      have hd : cleanL p (c.More.drop (2 * j)) = (bif p c.More[2 * j].N then [c.More[2 * j], c.More[2 * j + 1]] else []) ++ cleanL p (c.More.drop (2 * (j + 1))) := by
        rw [List.drop_eq_getElem_cons hj, List.drop_eq_getElem_cons hj1]; rfl
      rw [hd]
      cases p c.More[2 * j].N
      · rw [cf, cf, r64 (by omega) (by omega), step s (by omega)]; rfl
      · rw [ct, ct, r64 (a := 2 * (j : Int)) (by omega) (by omega), g0, bs, r64 (a := 2 * (j : Int)) (by omega) (by omega), r64 (a := 2 * (j : Int) + 1) (by omega) (by omega), g1, bs, rF (by simp; omega), r64 (by omega) (by omega), step _ (by simp; omega), List.append_assoc]
    · rw [lt_f (by omega), cf, List.drop_eq_nil_of_le (by omega)]
      simp [cleanL]
theorem clean_ref (N : Nat) (hN : 5000 < N) (l : List Int) (hl : l.length ≤ 5000) (c : DCell) (hS : c.Slots.length ≤ 600) (hc : c.More.length ≤ 600) : pantomimeref17_Clean_O N c l = some (bif isWM N c then cleanW N l c else zeroC) := by
  obtain ⟨h1, -, h2⟩ := is_ref N (by omega) c (by omega) (by omega)
  unfold pantomimeref17_Clean_O cleanW
  rw [h1, bs]
  cases hw : isWM N c
  · rfl
  · have e1 := rkeep_loop N hN l hl c (by omega) (h2 hw) N 0 [] (by omega) (by omega) rfl (by simp)
    have e2 := rwithout_loop N (fun x => decide (x ∈ l)) c c (by omega) (h2 hw) hN N 0 [] (by omega) (by omega) (by simp)
    have e1' : pantomimeref17_Clean_l12 N l c N [] 0 = _ := e1
    have e2' : pantomimeref17_without_l12 N (keepL (fun x => decide (x ∈ l)) c.More) c c N 0 [] = _ := e2
    have ec : pantomimeref17_Copied_O N c = some c := by
      unfold pantomimeref17_Copied_O
      rw [rF (by simp; omega), rF (by simp; omega)]; rfl
    simp only [nt, cf, ct]
    rw [e1']
    unfold pantomimeref17_Clean_j10 pantomimeref17_without_O
    rw [ec, bs]
    simp only [List.drop_zero, List.nil_append]
    rw [e2']
    rfl
theorem cleaned_ref (N : Nat) (hN : 5000 < N) (l : List Int) (hl : l.length ≤ 5000) (c : DCell) (hS : c.Slots.length ≤ 600) (hc : c.More.length ≤ 600) : pantomimeref19_cleaned_O N c l = some (cleanW N l c) := by
  have h0 := clean_ref N hN l hl c hS hc
  unfold pantomimeref19_cleaned_O
  rw [h0]
  unfold cleanW isWM
  obtain ⟨b, hb, -⟩ := right_tot N (by omega) c (by omega) (by omega)
  rw [hb]
  cases decide (c.Kind = 8) <;> cases b <;> rfl
theorem short_ref (N : Nat) (hN : 5000 < N) (l : List DCell) (hl : l.length ≤ 1000) (hc : ∀ c ∈ l, c.Slots.length ≤ 600 ∧ c.More.length ≤ 600) : pantomimeref19_short_O N l = some (l.map (bareC N)) := by
  apply Sat.eq
  unfold pantomimeref19_short_O
  refine loop_inv (fun k i (s : List DCell) => pantomimeref19_short_l5 N l k s (i : Int)) l.length (fun i s => s = (l.take i).map (bareC N)) _ ?_ ?_ N 0 [] (by omega) (by omega) rfl
  · rintro k i s hi h1 go
    show Sat (pantomimeref19_short_l5 N l (k + 1) s (i : Int)) _
    have hci := hc l[i] (List.getElem_mem _)
    have hsl : s.length ≤ i := by rw [h1]; simp; omega
    have hnext : s ++ [bareC N l[i]] = (l.take (i + 1)).map (bareC N) := by rw [take_succ_get hi, List.map_append, ← h1]; rfl
    rw [pantomimeref19_short_l5_s, lt_t (by omega), ct, getE_n hi, bs]
    obtain ⟨b, hb, hb2⟩ := right_tot N (by omega) l[i] (by omega) (by omega)
    rw [hb]
    have he : ((bif decide (l[i].Kind = 10) then ((some b).bind fun y17 => some y17) else some false) : Option Bool) = some (isFR N l[i]) := by
      unfold isFR; rw [hb]; cases decide (l[i].Kind = 10) <;> cases b <;> rfl
    rw [he, bs]
    unfold pantomimeref19_short_j14
    cases hw : isFR N l[i]
    · rw [cf, rF (by simp; omega), r64 (by omega) (by omega)]
      refine go _ ?_
      rw [← hnext]; unfold bareC; rw [hw]; rfl
    · have hb1 : b = true ∧ l[i].Kind = 10 := by
        unfold isFR at hw; rw [hb] at hw
        cases b <;> simp at hw
        exact ⟨rfl, hw⟩
      have h1m := ((hb2 hb1.1).2 hb1.2).1
      rw [ct, req_pos ⟨by omega, by omega, by show (1 : Int).toNat ≤ _; exact h1m⟩, rF (by simp; omega), r64 (by omega) (by omega)]
      refine go _ ?_
      rw [← hnext]; unfold bareC; rw [hw]; rfl
  · rintro k s h1
    show Sat (pantomimeref19_short_l5 N l (k + 1) s _) _
    rw [pantomimeref19_short_l5_s, lt_f (by omega), cf]
    exact sat_some (by rw [h1, List.take_length])
theorem side_ref (N : Nat) (hN : 5000 < N) {m : DMemory} {roots : List DValue} (hs : Small m roots) {L : List Int} (ho : pantomimeref19_Order_O N (bareM N m) roots = some L) : pantomimeref19_side_O N m roots = some ⟨bareM N m, L⟩ := by
  have h1 := hs.young
  have h2 := hs.old
  unfold pantomimeref19_side_O
  rw [short_ref N hN m.Young (by omega) fun c hc => hs.cell (List.mem_append_left _ hc), bs, short_ref N hN m.Old (by omega) fun c hc => hs.cell (List.mem_append_right _ hc), bs]
  have ho' : pantomimeref19_Order_O N ⟨m.Young.map (bareC N), m.Old.map (bareC N)⟩ roots = some L := ho
  rw [ho', bs]; rfl
theorem alike_ref (N : Nat) (hN : 5000 < N) {a b A B : DMemory} {x y : List DValue} {LA LB : List Int} (ba : pantomimeref19_side_O N a x = some ⟨A, LA⟩) (bb : pantomimeref19_side_O N b y = some ⟨B, LB⟩) (sA : SideOk A x LA) (sB : SideOk B y LB) : pantomimeref19_Alike_O N a x b y = some (alikeS N A x LA B y LB) := by
  have hA := sA.len; have hB := sB.len; have hx := sA.small.roots; have hy := sB.small.roots
  unfold pantomimeref19_Alike_O
  rw [ba, bs, bb, bs]
  simp only
  have hv := fun x y h1 h2 h3 h4 (_ : True) => values_ref N ⟨A, LA⟩ ⟨B, LB⟩ (by show LA.length < N; omega) (by show LA.length ≤ 5000; omega) (by show LB.length < N; omega) (by show LB.length ≤ 5000; omega) sA.has sB.has x y h1 h2 h3 h4
  by_cases hl : ¬ LA.length = LB.length
  · rw [decide_eq_false (by omega)]
    unfold alikeS; rw [decide_eq_false hl]; rfl
  replace hl : LA.length = LB.length := by omega
  have hz : (LA.zip LB).length = LA.length := by rw [List.length_zip]; omega
  have hloop : pantomimeref19_Alike_l23 N N 0 A.Young A.Old LA B.Young B.Old LB = some ((LA.zip LB).all fun p => corrC (hasM A) (hasM B) LA LB (cleanW N LA (atM A p.1)) (cleanW N LB (atM B p.2))) := by
    refine loop_all (fun k i => pantomimeref19_Alike_l23 N k i A.Young A.Old LA B.Young B.Old LB) (LA.zip LB) _ (fun k i h => ?_) (fun k => ?_) N (by omega)
    · have hi : i < LA.length := by omega
      have hi' : i < LB.length := by omega
      obtain ⟨c1, c2, c3, c4⟩ := sA.cell N LA[i]
      obtain ⟨d1, d2, d3, d4⟩ := sB.cell N LB[i]
      have e1 : pantomimeref19_At_O N ⟨A.Young, A.Old⟩ LA[i] = some (atM A LA[i]) := at_ref N A _ (sA.in64 (List.getElem_mem _))
      have e2 : pantomimeref19_At_O N ⟨B.Young, B.Old⟩ LB[i] = some (atM B LB[i]) := at_ref N B _ (sB.in64 (List.getElem_mem _))
      rw [pantomimeref19_Alike_l23_s, lt_t (by omega), ct, getE_n hi, bs, e1, bs, cleaned_ref N hN LA (by omega) _ c1.1 c1.2, bs, getE_n hi', bs, e2, bs, cleaned_ref N hN LB (by omega) _ d1.1 d1.2, bs, List.getElem_zip]
      simp only
      generalize cleanW N LA (atM A LA[i]) = c at *
      generalize cleanW N LB (atM B LB[i]) = d at *
      have v1 : pantomimeref19_values_O N ⟨⟨A.Young, A.Old⟩, LA⟩ c.Slots ⟨⟨B.Young, B.Old⟩, LB⟩ d.Slots = _ := hv c.Slots d.Slots (by omega) (by omega) c3 d3 trivial
      have v2 : pantomimeref19_values_O N ⟨⟨A.Young, A.Old⟩, LA⟩ c.More ⟨⟨B.Young, B.Old⟩, LB⟩ d.More = _ := hv c.More d.More (by omega) (by omega) c4 d4 trivial
      rw [v1, v2, r64 (by omega) (by omega)]
      unfold corrC
      simp only [bs]
      cases decide (c.Kind = d.Kind) <;> cases decide (c.Shape = d.Shape) <;> cases decide (c.Flags = d.Flags) <;> cases corrL (hasM A) (hasM B) LA LB c.Slots d.Slots <;> cases corrL (hasM A) (hasM B) LA LB c.More d.More <;> rfl
    · show pantomimeref19_Alike_l23 N (k + 1) _ A.Young A.Old LA B.Young B.Old LB = _
      rw [hz, pantomimeref19_Alike_l23_s, lt_f (by omega), cf]; rfl
  have v0 := hv x y (by omega) (by omega) sA.x64 sB.x64 trivial
  rw [decide_eq_true (p := (LA.length : Int) = (LB.length : Int)) (by omega), v0, hloop]
  unfold alikeS
  rw [decide_eq_true hl]
  simp only [nt, cf, bs]
  cases corrL (hasM A) (hasM B) LA LB x y <;> rfl
end Go.Proofs.YtmbaennilhdieaaGreat

/- Plain: memories of a bounded size. -/
namespace Go.Proofs.YtmbaennilhdieaaGreat
open Go.RowKit

/-- lengths of what is read -/
structure Bnd (B : Nat) (m : DMemory) (roots : List DValue) : Prop where
  young : m.Young.length ≤ B
  old : m.Old.length ≤ B
  roots : roots.length ≤ B
  cells : ∀ c ∈ m.Young ++ m.Old, c.Slots.length ≤ B ∧ c.More.length ≤ B
theorem few_spec (N : Nat) (hN : 5000 < N) {m : DMemory} {roots : List DValue} (hb : Bnd 140737488355328 m roots) : Sat (pantomimeref19_Few_O N m roots) fun b => b = true → Small m roots := by
  have hy := hb.young; have ho := hb.old; have hr := hb.roots
  have old : ∀ p : Nat, p ≤ 300000000000000 → (p ≤ 600 → roots.length ≤ p ∧ m.Young.length ≤ p ∧ ∀ c ∈ m.Young, c.Slots.length ≤ p ∧ c.More.length ≤ p) → Sat (pantomimeref19_Few_j5 N m (p : Int)) fun b => b = true → Small m roots := by
    intro p hp hY
    unfold pantomimeref19_Few_j5
    refine loop_dec (fun f (s : Nat × Nat) => pantomimeref19_Few_l26 N m f (s.1 : Int) (s.2 : Int)) (fun s => 700 - s.1) (fun s => s.1 ≤ 300000000000000 ∧ s.2 ≤ m.Old.length ∧ (s.1 ≤ 600 → (roots.length ≤ s.1 ∧ m.Young.length ≤ s.1 ∧ ∀ c ∈ m.Young, c.Slots.length ≤ s.1 ∧ c.More.length ≤ s.1) ∧ s.2 ≤ s.1 ∧ ∀ c ∈ m.Old.take s.2, c.Slots.length ≤ s.1 ∧ c.More.length ≤ s.1)) _ ?_ N (p, 0) (by show 700 - p < N; omega) ⟨hp, Nat.zero_le _, fun h => ⟨hY h, Nat.zero_le _, by simp⟩⟩
    rintro f ⟨p, i⟩ ⟨h1, h2, h3⟩ go
    show Sat (pantomimeref19_Few_l26 N m (f + 1) (p : Int) (i : Int)) _
    simp only at h1 h2 h3
    rw [pantomimeref19_Few_l26_s]
    have fin : (i = m.Old.length ∨ 600 < p) → Sat (pantomimeref19_Few_j24 N (p : Int)) fun b => b = true → Small m roots := fun hh => sat_some fun hb2 => by
      have hp6 : (p : Int) ≤ 600 := of_decide_eq_true hb2
      obtain ⟨⟨k1, k2, k3⟩, k4, k5⟩ := h3 (by omega)
      have hi : i = m.Old.length := by omega
      subst hi
      rw [List.take_length] at k5
      exact ⟨by omega, by omega, by omega, fun c hc => by
        rcases List.mem_append.1 hc with hc | hc
        · have := k3 c hc; omega
        · have := k5 c hc; omega⟩
    by_cases hi : i < m.Old.length
    · rw [lt_t (by omega), ct, bs]
      refine sat_dec (fun h6 => ?_) fun h6 => fin (.inr (by omega))
      have hc := hb.cells m.Old[i] (by simp)
      rw [r64 (a := (p : Int) + 1) (by omega) (by omega), getE_n hi, bs, r64 (a := (p : Int) + 1 + (m.Old[i].Slots.length : Int)) (by omega) (by omega), bs, r64 (a := (p : Int) + 1 + (m.Old[i].Slots.length : Int) + (m.Old[i].More.length : Int)) (by omega) (by omega), r64 (a := (i : Int) + 1) (by omega) (by omega)]
      have hg := go (p + 1 + m.Old[i].Slots.length + m.Old[i].More.length, i + 1) (by show 700 - (p + 1 + m.Old[i].Slots.length + m.Old[i].More.length) < 700 - p; omega) ⟨by show p + 1 + m.Old[i].Slots.length + m.Old[i].More.length ≤ 300000000000000; omega, hi, fun h7 => by
        simp only at h7
        obtain ⟨⟨k1, k2, k3⟩, k4, k5⟩ := h3 (by omega)
        refine ⟨⟨by show _ ≤ _ + _; omega, by show _ ≤ _ + _; omega, fun c hc2 => by have := k3 c hc2; constructor <;> (show _ ≤ _ + _; omega)⟩, by show i + 1 ≤ _; omega, fun c hc2 => ?_⟩
        simp only at hc2
        rw [take_succ_get hi, List.mem_append, List.mem_singleton] at hc2
        rcases hc2 with hc2 | rfl
        · have := k5 c hc2; constructor <;> (show _ ≤ _ + _; omega)
        · constructor <;> (show _ ≤ _ + _; omega)⟩
      simpa using hg
    · rw [lt_f (by omega), cf, bs, cf]
      exact fin (.inl (by omega))
  unfold pantomimeref19_Few_O
  refine loop_dec (fun f (s : Nat × Nat) => pantomimeref19_Few_l7 N m f (s.1 : Int) (s.2 : Int)) (fun s => 700 - s.1) (fun s => s.1 ≤ 300000000000000 ∧ s.2 ≤ m.Young.length ∧ (s.1 ≤ 600 → roots.length ≤ s.1 ∧ s.2 ≤ s.1 ∧ ∀ c ∈ m.Young.take s.2, c.Slots.length ≤ s.1 ∧ c.More.length ≤ s.1)) _ ?_ N (roots.length, 0) (by show 700 - roots.length < N; omega) ⟨by show roots.length ≤ 300000000000000; omega, Nat.zero_le _, fun h => ⟨Nat.le_refl _, Nat.zero_le _, by simp⟩⟩
  rintro f ⟨p, i⟩ ⟨h1, h2, h3⟩ go
  show Sat (pantomimeref19_Few_l7 N m (f + 1) (p : Int) (i : Int)) _
  simp only at h1 h2 h3
  rw [pantomimeref19_Few_l7_s]
  by_cases hi : i < m.Young.length
  · rw [lt_t (by omega), ct, bs]
    refine sat_dec (fun h6 => ?_) fun h6 => old p h1 fun h7 => absurd h7 (by omega)
    have hc := hb.cells m.Young[i] (by simp)
    rw [r64 (a := (p : Int) + 1) (by omega) (by omega), getE_n hi, bs, r64 (a := (p : Int) + 1 + (m.Young[i].Slots.length : Int)) (by omega) (by omega), bs, r64 (a := (p : Int) + 1 + (m.Young[i].Slots.length : Int) + (m.Young[i].More.length : Int)) (by omega) (by omega), r64 (a := (i : Int) + 1) (by omega) (by omega)]
    have hg := go (p + 1 + m.Young[i].Slots.length + m.Young[i].More.length, i + 1) (by show 700 - (p + 1 + m.Young[i].Slots.length + m.Young[i].More.length) < 700 - p; omega) ⟨by show p + 1 + m.Young[i].Slots.length + m.Young[i].More.length ≤ 300000000000000; omega, hi, fun h7 => by
      simp only at h7
      obtain ⟨k1, k4, k5⟩ := h3 (by omega)
      refine ⟨by show _ ≤ _ + _; omega, by show i + 1 ≤ _; omega, fun c hc2 => ?_⟩
      simp only at hc2
      rw [take_succ_get hi, List.mem_append, List.mem_singleton] at hc2
      rcases hc2 with hc2 | rfl
      · have := k5 c hc2; constructor <;> (show _ ≤ _ + _; omega)
      · constructor <;> (show _ ≤ _ + _; omega)⟩
    simpa using hg
  · rw [lt_f (by omega), cf, bs, cf]
    have hie : i = m.Young.length := by omega
    subst hie
    refine old p h1 fun h7 => ?_
    obtain ⟨k1, k4, k5⟩ := h3 h7
    rw [List.take_length] at k5
    exact ⟨k1, k4, k5⟩
end Go.Proofs.YtmbaennilhdieaaGreat

/- Plain: what is read is of a bounded size. -/
namespace Go.Proofs.YtmbaennilhdieaaGreat
open Go.RowKit

theorem reach_le : reachBytes ≤ 140737488355328 := by decide
theorem read_mem (m : DMemory) (roots : List DValue) (hm : wfwDMemory m) (hr : WfL (fun z => wfwDValue z) roots) : Bnd 140737488355328 m roots ∧ W64 m ∧ ∀ v ∈ roots, in64 v.N := by
  have hb := reach_le
  obtain ⟨⟨y1, y2⟩, o1, o2⟩ := hm
  have hc : ∀ c ∈ m.Young ++ m.Old, wfwDCell c := fun c hc => (List.mem_append.1 hc).elim (y2 c) (o2 c)
  refine ⟨⟨Nat.le_trans y1 hb, Nat.le_trans o1 hb, Nat.le_trans hr.1 hb, fun c h => ?_⟩, fun c h v hv => ?_, fun v hv => (hr.2 v hv).2.1⟩
  · obtain ⟨-, -, -, -, s, t⟩ := hc c h
    exact ⟨Nat.le_trans s.1 hb, Nat.le_trans t.1 hb⟩
  · obtain ⟨-, -, -, -, s, t⟩ := hc c h
    rcases List.mem_append.1 hv with hv | hv
    · exact (s.2 v hv).2.1
    · exact (t.2 v hv).2.1
end Go.Proofs.YtmbaennilhdieaaGreat

/- Plain: ReachAlike. -/
namespace Go.Proofs.YtmbaennilhdieaaGreat
open Go.RowKit

/-- the side of a memory -/
theorem side_ok (N : Nat) (hN : 5000 < N) {m : DMemory} {x : List DValue} (hs : Small m x) (hw : W64 m) (hx : ∀ v ∈ x, in64 v.N) : ∃ L, SideOk (bareM N m) x L ∧ reach_Order_O N (bareM N m) x = some L ∧ pantomimeref19_Order_O N (bareM N m) x = some L := by
  obtain ⟨bg, all, ho, hlen, -, -, o0⟩ := order_fun N hN (hs.bare N) (hw.bare N) hx
  obtain ⟨b', all', ho', r0, -⟩ := rorder_fun N hN (hs.bare N) (hw.bare N) hx
  obtain ⟨-, e2⟩ := ho.det ho'
  subst e2
  exact ⟨all, ⟨hs.bare N, hw.bare N, hx, hlen, ho.nodup.2, ho.has.2⟩, o0, r0⟩
theorem alike_both (N : Nat) (hN : 5000 < N) {a b : DMemory} {x y : List DValue} (ha : Small a x) (hb : Small b y) (wa : W64 a) (wb : W64 b) (hx : ∀ v ∈ x, in64 v.N) (hy : ∀ v ∈ y, in64 v.N) : ∃ LA LB, SideOk (bareM N a) x LA ∧ SideOk (bareM N b) y LB ∧ reach_Order_O N (bareM N a) x = some LA ∧ reach_Order_O N (bareM N b) y = some LB ∧ reach_Alike_O N a x b y = some (alikeS N (bareM N a) x LA (bareM N b) y LB) ∧ pantomimeref19_Alike_O N a x b y = some (alikeS N (bareM N a) x LA (bareM N b) y LB) := by
  obtain ⟨LA, sA, oA, rA⟩ := side_ok N hN ha wa hx
  obtain ⟨LB, sB, oB, rB⟩ := side_ok N hN hb wb hy
  exact ⟨LA, LB, sA, sB, oA, oB, alike_prog N hN (bare_prog N hN ha) (bare_prog N hN hb) sA sB oA oB, alike_ref N hN (side_ref N hN ha rA) (side_ref N hN hb rB) sA sB⟩
theorem alike_law {a b : DMemory} {r : DS41} (ha : Bnd 140737488355328 a r.e0) (hb : Bnd 140737488355328 b r.e1) (wa : W64 a) (wb : W64 b) (h0 : ∀ v ∈ r.e0, in64 v.N) (h1 : ∀ v ∈ r.e1, in64 v.N) : pantomimelaw19_ReachAlike_O 6000 a b r = some true := by
  apply Sat.eq
  unfold pantomimelaw19_ReachAlike_O
  refine Sat.bind (few_spec 6000 (by decide) ha) fun c1 hf1 => ?_
  refine Sat.bind (P := fun c => c = false → c1 = true ∧ Small b r.e1) (sat_not (fun _ => sat_some fun h => by cases h) fun e => Sat.bind (few_spec 6000 (by decide) hb) fun c2 hf2 => sat_some fun h => ⟨e, hf2 (by cases c2 <;> first | rfl | cases h)⟩) fun c hc => ?_
  refine sat_cond (fun _ => ?_) fun e => ?_
  · rw [goes_true]; exact sat_some rfl
  obtain ⟨e1, hs2⟩ := hc e
  have hs1 := hf1 e1
  obtain ⟨LA, LB, sA, sB, oA, oB, p1, p2⟩ := alike_both 6000 (by decide) hs1 hs2 wa wb h0 h1
  have p3 := alike_prog 6000 (by decide) (bare_prog 6000 (by decide) hs2) (bare_prog 6000 (by decide) hs1) sB sA oB oA
  have p4 := alike_prog 6000 (by decide) (bare_prog 6000 (by decide) hs1) (bare_prog 6000 (by decide) hs1) sA sA oA oA
  rw [alikeS_symm] at p3
  rw [alikeS_refl] at p4
  rw [p1, bs, p2, bs, beq_self_eq_true, ct, p3, bs, beq_self_eq_true, bs, ct, p4, bs, bs, ct, goes_true, bs, bs]
  exact sat_some rfl
end Go.Proofs.YtmbaennilhdieaaGreat

/- Plain: ReachAlike for what can be read. -/
namespace Go.Proofs.YtmbaennilhdieaaGreat
open Go.RowKit

theorem alike_top (a b : DMemory) (r : DS41) (ha : wfwDMemory a) (hb : wfwDMemory b) (hr : wfwDS41 r) : pantomimelaw19_ReachAlike_O 6000 a b r = some true := by
  obtain ⟨h1, h2, h3⟩ := read_mem a r.e0 ha hr.1
  obtain ⟨h4, h5, h6⟩ := read_mem b r.e1 hb hr.2
  exact alike_law h1 h4 h2 h5 h3 h6
end Go.Proofs.YtmbaennilhdieaaGreat
