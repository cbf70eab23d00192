/- Plain: the reference's side of the remembered set. -/
import Derived.Test.YtancgbfkpoeffaaRp3
import Derived.Test.YtancgbfkpoeffaaPx
import Derived.Test.YtancgbfkpoeffaaR2b
namespace Go.Proofs.Ytancgbfkpoeffaa
open Go.RowKit Go.ChangeShapes Go.WideShapes Go.Deep

def weakB (k : Int) (i : Nat) : Bool := decide (k = 8) || (decide (k = 10) && (decide (0 < (i : Int)) && decide ((((i : Int) - 1).tmod 4).tmod 2 = 0)))
theorem weak_spec (N : Nat) (k : Int) (i : Nat) (hi : i ≤ 5000) : pantomimeref15_weak_O N k (i : Int) = some (weakB k i) := by
  unfold pantomimeref15_weak_O weakB
  by_cases h1 : k = 8
  · simp [h1]
  · by_cases h2 : k = 10
    · by_cases h3 : (0 : Int) < i
      · subst h2; simp only [h3, decide_true, ct, bs, r64 (a := (i : Int) - 1) (by omega) (by omega), show decide ((10 : Int) = 8) = false from rfl, cf, Bool.false_or, Bool.true_and]
      · subst h2; simp only [h3, decide_true, decide_false, ct, bs, show decide ((10 : Int) = 8) = false from rfl, cf, Bool.false_or, Bool.true_and, Bool.false_and]
    · simp [h1, h2]
theorem weakly_spec (N : Nat) (hN : 2000 < N) (c : DCell) (hc : c.More.length ≤ 1000) : pantomimeref15_Weakly_O N c = some (pick (fun i v => weakB c.Kind i && hasB v) 0 c.More) := by
  apply Sat.eq
  unfold pantomimeref15_Weakly_O
  refine loop_inv (fun m i s => pantomimeref15_Weakly_l6 N c m s (i : Int)) c.More.length (fun i s => s ++ pick (fun i v => weakB c.Kind i && hasB v) i (c.More.drop i) = pick (fun i v => weakB c.Kind i && hasB v) 0 c.More ∧ s.length ≤ i) _ ?_ ?_ N 0 [] (by omega) (by omega) ⟨by simp, by simp⟩
  · rintro m i s hi ⟨h1, h2⟩ k
    show Sat (pantomimeref15_Weakly_l6 N c (m + 1) s i) _
    rw [List.drop_eq_getElem_cons hi, pick_cons] at h1
    rw [pantomimeref15_Weakly_l6_s, lt_t (by omega), cond_true, getE_n hi, bs, ref_has_spec, bs, weak_spec _ _ _ (by omega)]
    simp only [bs]
    cases hh : hasB c.More[i] <;> cases hw : weakB c.Kind i
    all_goals
      simp only [hh, hw, Bool.and_true, Bool.and_false, ct, cf, bs, List.nil_append] at h1 ⊢
      first
      | (unfold pantomimeref15_Weakly_j11
         rw [r64 (by omega) (by omega)]
         exact k s ⟨h1, by omega⟩)
      | (rw [rF (by simp; omega)]
         unfold pantomimeref15_Weakly_j11
         rw [r64 (by omega) (by omega)]
         exact k _ ⟨by rw [List.append_assoc]; exact h1, by simp; omega⟩)
  · rintro m s ⟨h1, h2⟩
    show Sat (pantomimeref15_Weakly_l6 N c (m + 1) s _) _
    rw [List.drop_length] at h1
    rw [pantomimeref15_Weakly_l6_s, lt_f (by omega), cond_false]
    exact sat_some (by rw [← h1]; simp [pick])
theorem ref_leads_spec (N : Nat) (hN : 2000 < N) (c : DCell) (hS : c.Slots.length ≤ 1000) (hc : c.More.length ≤ 1000) : pantomimeref15_Leads_O N c = some (pick (fun _ v => hasB v) 0 c.Slots ++ pick (fun i v => !weakB c.Kind i && hasB v) 0 c.More) := by
  apply Sat.eq
  unfold pantomimeref15_Leads_O
  refine loop_inv (fun m i s => pantomimeref15_Leads_l6 N c m s (i : Int)) c.Slots.length (fun i s => s ++ pick (fun _ v => hasB v) i (c.Slots.drop i) = pick (fun _ v => hasB v) 0 c.Slots ∧ s.length ≤ i) _ ?_ ?_ N 0 [] (by omega) (by omega) ⟨by simp, by simp⟩
  · rintro m i s hi ⟨h1, h2⟩ k
    show Sat (pantomimeref15_Leads_l6 N c (m + 1) s i) _
    rw [List.drop_eq_getElem_cons hi, pick_cons] at h1
    rw [pantomimeref15_Leads_l6_s, lt_t (by omega), cond_true, getE_n hi, bs, ref_has_spec, bs]
    simp only [bs]
    cases hh : hasB c.Slots[i]
    all_goals
      simp only [hh, ct, cf, bs, List.nil_append] at h1 ⊢
      first
      | (unfold pantomimeref15_Leads_j11
         rw [r64 (by omega) (by omega)]
         exact k s ⟨h1, by omega⟩)
      | (rw [rF (by simp; omega)]
         unfold pantomimeref15_Leads_j11
         rw [r64 (by omega) (by omega)]
         exact k _ ⟨by rw [List.append_assoc]; exact h1, by simp; omega⟩)
  · rintro m s ⟨h1, h2⟩
    show Sat (pantomimeref15_Leads_l6 N c (m + 1) s _) _
    rw [List.drop_length] at h1
    have h1 : s = pick (fun _ v => hasB v) 0 c.Slots := by rw [← h1]; simp [pick]
    rw [pantomimeref15_Leads_l6_s, lt_f (by omega), cond_false, ← h1]
    unfold pantomimeref15_Leads_j4
    clear h1
    refine loop_inv (fun m i s => pantomimeref15_Leads_l23 N c m s (i : Int)) c.More.length (fun i t => t ++ pick (fun i v => !weakB c.Kind i && hasB v) i (c.More.drop i) = s ++ pick (fun i v => !weakB c.Kind i && hasB v) 0 c.More ∧ t.length ≤ 1000 + i) _ ?_ ?_ N 0 s (by omega) (by omega) ⟨by simp, by omega⟩
    · rintro m i s hi ⟨h1, h2⟩ k
      show Sat (pantomimeref15_Leads_l23 N c (m + 1) s i) _
      rw [List.drop_eq_getElem_cons hi, pick_cons] at h1
      rw [pantomimeref15_Leads_l23_s, lt_t (by omega), cond_true, getE_n hi, bs, ref_has_spec, bs, weak_spec _ _ _ (by omega)]
      simp only [bs]
      cases hh : hasB c.More[i] <;> cases hw : weakB c.Kind i
      all_goals
        simp only [hh, hw, Bool.and_true, Bool.and_false, nt, nf, ct, cf, bs, List.nil_append] at h1 ⊢
        first
        | (unfold pantomimeref15_Leads_j27
           rw [r64 (by omega) (by omega)]
           exact k s ⟨h1, by omega⟩)
        | (rw [rF (by simp; omega)]
           unfold pantomimeref15_Leads_j27
           rw [r64 (by omega) (by omega)]
           exact k _ ⟨by rw [List.append_assoc]; exact h1, by simp; omega⟩)
    · rintro m s ⟨h1, h2⟩
      show Sat (pantomimeref15_Leads_l23 N c (m + 1) s _) _
      rw [List.drop_length] at h1
      rw [pantomimeref15_Leads_l23_s, lt_f (by omega), cond_false]
      exact sat_some (by rw [← h1]; simp [pick])
theorem any_l16 (N : Nat) (hN : 5000 < N) (l : List Int) (hl : l.length ≤ 3000) : pantomimeref21_Young_l16 N l N 0 = some (l.any ygB) := by
  apply Sat.eq
  refine loop_inv0 (fun m i => pantomimeref21_Young_l16 N l m (i : Int)) l.length (fun i => (l.drop i).any ygB = l.any ygB) _ ?_ ?_ N 0 (by omega) (by omega) (by simp)
  · intro m i hi h1 k
    show Sat (pantomimeref21_Young_l16 N l (m + 1) i) _
    rw [List.drop_eq_getElem_cons hi, List.any_cons] at h1
    rw [pantomimeref21_Young_l16_s, lt_t (by omega), cond_true, getE_n hi]
    simp only [bs]
    have e : (bif decide (0 < l[i]) then some (decide (l[i].tmod 2 = 1)) else some false) = some (ygB l[i]) := by
      unfold ygB; cases decide (0 < l[i]) <;> rfl
    rw [e, bs]
    cases h : ygB l[i]
    · rw [cond_false, r64 (by omega) (by omega)]
      rw [h, Bool.false_or] at h1
      exact k h1
    · rw [h, Bool.true_or] at h1
      exact sat_some h1
  · intro m h1
    show Sat (pantomimeref21_Young_l16 N l (m + 1) _) _
    rw [pantomimeref21_Young_l16_s, lt_f (by omega), cond_false]
    rw [List.drop_length] at h1
    exact sat_some h1
theorem young_spec (N : Nat) (hN : 5000 < N) (c : DCell) (hS : c.Slots.length ≤ 1000) (hc : c.More.length ≤ 1000) : pantomimeref21_Young_O N c = some (youngS c) := by
  unfold pantomimeref21_Young_O pantomimeref21_Young_j4
  have l1 := pick_len (fun _ v => hasB v) 0 c.Slots
  have l2 := pick_len (fun i v => !weakB c.Kind i && hasB v) 0 c.More
  have l3 := pick_len (fun i v => weakB c.Kind i && hasB v) 0 c.More
  rw [ref_leads_spec N (by omega) c hS hc, bs, rF (by simp; omega), weakly_spec N (by omega) c hc, bs, rF (by simp; omega)]
  rw [any_l16 N hN _ (by simp; omega)]
  have h1 := pick_true ygB 0 c.Slots
  have h2 := pick_any (weakB c.Kind) ygB 0 c.More
  unfold youngS
  rw [List.any_append (xs := c.Slots), ← h1, ← h2, List.nil_append, List.any_append, List.any_append, Bool.or_assoc]
  congr 2
  exact Bool.or_comm _ _
theorem same_spec (N : Nat) (hN : 5000 < N) (a b : List Int) (ha : a.length ≤ 5000 ∨ b.length ≤ 4999) : pantomimeref15_SameInts_O N a b = some (decide (a = b)) := by
  unfold pantomimeref15_SameInts_O
  by_cases hl : a.length = b.length
  · rw [eq_t (by omega), Bool.not_true, cond_false]
    apply Sat.eq
    refine loop_inv0 (fun m i => pantomimeref15_SameInts_l5 N a b m (i : Int)) a.length (fun i => a.take i = b.take i) _ ?_ ?_ N 0 (by omega) (by omega) (by simp)
    · intro m i hi h1 k
      show Sat (pantomimeref15_SameInts_l5 N a b (m + 1) i) _
      rw [pantomimeref15_SameInts_l5_s, lt_t (by omega), cond_true, getE_n hi, bs, getE_n (by omega), bs]
      by_cases h : a[i] = b[i]'(by omega)
      · rw [eq_t h, Bool.not_true, cond_false, r64 (by omega) (by omega)]
        refine k ?_
        rw [take_succ_get hi, take_succ_get (by omega), h1, h]
      · rw [eq_f h]
        exact sat_some (Eq.symm (decide_eq_false fun e => h (by subst e; rfl)))
    · intro m h1
      show Sat (pantomimeref15_SameInts_l5 N a b (m + 1) _) _
      rw [pantomimeref15_SameInts_l5_s, lt_f (by omega), cond_false]
      rw [List.take_length, hl, List.take_length] at h1
      exact sat_some (Eq.symm (decide_eq_true h1))
  · rw [eq_f (by omega)]
    have : decide (a = b) = false := decide_eq_false fun e => hl (by rw [e])
    rw [this]; rfl
theorem ref_old_spec (N : Nat) (n : Int) : pantomimeref21_old_O N n = some (decide (0 < n) && decide (n.tmod 2 = 0)) := by
  unfold pantomimeref21_old_O; cases decide (0 < n) <;> rfl
def noteL (l : List Int) (a : Int) (y : Bool) : List Int := (l.filter fun x => decide (x < a)) ++ (bif y then [a] else []) ++ l.filter fun x => decide (a < x)
theorem note_l32 (N : Nat) (hN : 5000 < N) (a : Int) (y : Bool) (l p : List Int) (hl : l.length ≤ 1000) (hp : p.length ≤ 2000) : pantomimeref21_Note_l32 N a y l N p 0 = some (p ++ l.filter (fun x => decide (a < x)), y) := by
  apply Sat.eq
  refine loop_inv (fun m i s => pantomimeref21_Note_l32 N a y l m s (i : Int)) l.length (fun i s => s = p ++ (l.take i).filter (fun x => decide (a < x)) ∧ s.length ≤ 2000 + i) _ ?_ ?_ N 0 p (by omega) (by omega) ⟨by simp, by omega⟩
  · rintro m i s hi ⟨h1, h2⟩ k
    show Sat (pantomimeref21_Note_l32 N a y l (m + 1) s i) _
    rw [pantomimeref21_Note_l32_s, lt_t (by omega), cond_true, getE_n hi]
    simp only [bs]
    unfold pantomimeref21_Note_j36
    refine sat_dec (fun h => ?_) fun h => ?_
    · rw [rF (by simp; omega), r64 (by omega) (by omega)]
      refine k _ ⟨?_, by simp; omega⟩
      rw [h1, take_succ_get hi, List.filter_append, List.append_assoc]; simp [h]
    · rw [r64 (by omega) (by omega)]
      refine k _ ⟨?_, by omega⟩
      rw [h1, take_succ_get hi, List.filter_append]; simp [h]
  · rintro m s ⟨h1, h2⟩
    show Sat (pantomimeref21_Note_l32 N a y l (m + 1) s _) _
    rw [pantomimeref21_Note_l32_s, lt_f (by omega), cond_false]
    rw [List.take_length] at h1
    exact sat_some (by rw [h1])
theorem ref_note_spec (N : Nat) (hN : 5000 < N) (l : List Int) (a : Int) (c : DCell) (hl : l.length ≤ 1000) (hS : c.Slots.length ≤ 1000) (hc : c.More.length ≤ 1000) : pantomimeref21_Note_O N l a c = some (if 0 < a ∧ a.tmod 2 = 0 then (noteL l a (youngS c), youngS c) else (l, false)) := by
  unfold pantomimeref21_Note_O
  rw [ref_old_spec, bs]
  by_cases h1 : 0 < a ∧ a.tmod 2 = 0
  · rw [if_pos h1, decide_eq_true h1.1, decide_eq_true h1.2]
    apply Sat.eq
    refine loop_inv (fun m i s => pantomimeref21_Note_l9 N a l c m s (i : Int)) l.length (fun i s => s = (l.take i).filter (fun x => decide (x < a)) ∧ s.length ≤ i) _ ?_ ?_ N 0 [] (by omega) (by omega) ⟨by simp, by simp⟩
    · rintro m i s hi ⟨h1, h2⟩ k
      show Sat (pantomimeref21_Note_l9 N a l c (m + 1) s i) _
      rw [pantomimeref21_Note_l9_s, lt_t (by omega), cond_true, getE_n hi]
      simp only [bs]
      unfold pantomimeref21_Note_j14
      refine sat_dec (fun h => ?_) fun h => ?_
      · rw [rF (by simp; omega), r64 (by omega) (by omega)]
        refine k _ ⟨?_, by simp; omega⟩
        rw [h1, take_succ_get hi, List.filter_append]; simp [h]
      · rw [r64 (by omega) (by omega)]
        refine k _ ⟨?_, by omega⟩
        rw [h1, take_succ_get hi, List.filter_append]; simp [h]
    · rintro m s ⟨h1, h2⟩
      show Sat (pantomimeref21_Note_l9 N a l c (m + 1) s _) _
      rw [pantomimeref21_Note_l9_s, lt_f (by omega), cond_false]
      rw [List.take_length] at h1
      unfold pantomimeref21_Note_j7 pantomimeref21_Note_j24
      rw [young_spec N hN c hS hc, bs]
      cases hy : youngS c
      · rw [cond_false, note_l32 N hN _ _ _ _ (by omega) (by omega)]
        exact sat_some (by unfold noteL; rw [h1]; simp)
      · rw [cond_true, rF (by simp; omega), note_l32 N hN _ _ _ _ (by omega) (by simp; omega)]
        exact sat_some (by unfold noteL; rw [h1]; simp)
  · rw [if_neg h1]
    have e : (decide (0 < a) && decide (a.tmod 2 = 0)) = false := by
      rw [← Bool.decide_and]; exact decide_eq_false h1
    rw [e]; rfl
def renewL : Nat → List DCell → List Int
  | _, [] => []
  | i, c :: r => (bif youngS c then [2 * (i : Int) + 2] else []) ++ renewL (i + 1) r
theorem renewL_cons (i : Nat) (c : DCell) (r : List DCell) : renewL i (c :: r) = (bif youngS c then [2 * (i : Int) + 2] else []) ++ renewL (i + 1) r := rfl
theorem renewL_app : ∀ (i : Nat) (a b : List DCell), renewL i (a ++ b) = renewL i a ++ renewL (i + a.length) b
  | _, [], _ => rfl
  | i, c :: a, b => by
    rw [List.cons_append, renewL_cons, renewL_cons, renewL_app (i + 1) a b, List.append_assoc, List.length_cons]
    congr 3; omega
theorem renewL_mem : ∀ (i : Nat) (l : List DCell) (x : Int), x ∈ renewL i l ↔ ∃ (j : Nat) (c : DCell), l[j]? = some c ∧ youngS c = true ∧ x = 2 * ((i + j : Nat) : Int) + 2
  | _, [], x => by simp [renewL]
  | i, c :: r, x => by
    rw [renewL_cons, List.mem_append, renewL_mem (i + 1) r x]
    constructor
    · rintro (h | ⟨j, d, h1, h2, h3⟩)
      · cases hy : youngS c
        · rw [hy] at h; cases h
        · rw [hy] at h
          simp only [ct, List.mem_singleton] at h
          exact ⟨0, c, rfl, hy, by rw [h]; simp⟩
      · exact ⟨j + 1, d, by simpa using h1, h2, by rw [h3]; congr 3; omega⟩
    · rintro ⟨j, d, h1, h2, h3⟩
      cases j with
      | zero =>
        simp only [List.getElem?_cons_zero, Option.some.injEq] at h1
        subst h1
        left; rw [h2, h3]; simp
      | succ j => exact .inr ⟨j, d, by simpa using h1, h2, by rw [h3]; congr 3; omega⟩
theorem renewL_asc : ∀ (i : Nat) (l : List DCell), (renewL i l).Pairwise (· < ·)
  | _, [] => .nil
  | i, c :: r => by
    rw [renewL_cons]
    cases youngS c
    · exact renewL_asc (i + 1) r
    · refine List.pairwise_cons.2 ⟨fun x hx => ?_, renewL_asc (i + 1) r⟩
      obtain ⟨j, d, -, -, h⟩ := (renewL_mem _ _ _).1 hx
      omega
theorem renewL_len : ∀ (i : Nat) (l : List DCell), (renewL i l).length ≤ l.length
  | _, [] => Nat.le_refl _
  | i, c :: r => by
    have := renewL_len (i + 1) r
    rw [renewL_cons]
    cases youngS c <;> simp <;> omega
def SmallL (l : List DCell) : Prop := l.length ≤ 60 ∧ ∀ x ∈ l, x.Slots.length ≤ 1000 ∧ x.More.length ≤ 1000
theorem ref_renew_spec (N : Nat) (hN : 5000 < N) (m : DMemory) (hm : SmallL m.Old) : pantomimeref21_Renew_O N m = some (renewL 0 m.Old) := by
  apply Sat.eq
  have h60 := hm.1
  refine loop_inv (fun k i s => pantomimeref21_Renew_l6 N m k s (i : Int)) m.Old.length (fun i s => s = renewL 0 (m.Old.take i) ∧ s.length ≤ i) _ ?_ ?_ N 0 [] (by omega) (by omega) ⟨by simp [renewL], by simp⟩
  · rintro k i s hi ⟨h1, h2⟩ g
    show Sat (pantomimeref21_Renew_l6 N m (k + 1) s i) _
    obtain ⟨hS, hM⟩ := hm.2 _ (List.getElem_mem hi)
    have e : renewL 0 (m.Old.take (i + 1)) = s ++ (bif youngS m.Old[i] then [2 * (i : Int) + 2] else []) := by
      rw [take_succ_get hi, renewL_app, ← h1, renewL_cons]
      simp [renewL, List.length_take, Nat.min_eq_left (Nat.le_of_lt hi)]
    rw [pantomimeref21_Renew_l6_s, lt_t (by omega), cond_true, getE_n hi, bs, young_spec N hN _ hS hM, bs]
    unfold pantomimeref21_Renew_j11
    cases hy : youngS m.Old[i]
    · rw [cond_false, r64 (by omega) (by omega)]
      rw [hy, cond_false, List.append_nil] at e
      exact g _ ⟨e.symm, by omega⟩
    · rw [cond_true, r64 (by omega) (by omega), r64 (by omega) (by omega), rF (by simp; omega), r64 (by omega) (by omega)]
      rw [hy, cond_true] at e
      exact g _ ⟨e.symm, by simp; omega⟩
  · rintro k s ⟨h1, h2⟩
    show Sat (pantomimeref21_Renew_l6 N m (k + 1) s _) _
    rw [pantomimeref21_Renew_l6_s, lt_f (by omega), cond_false]
    rw [List.take_length] at h1
    exact sat_some h1
end Go.Proofs.Ytancgbfkpoeffaa
