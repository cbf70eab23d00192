/- Plain: what a weak map opens, on both sides. -/
import Derived.Test.YtmbaennilhdieaaRq4
namespace Go.Proofs.Ytmbaennilhdieaa
open Go.RowKit

theorem index_spec (N : Nat) (x : Int) (l : List Int) (hl : l.length ≤ 5000) : ∀ (m i : Nat), l.length < m + i → i ≤ l.length → Sat (slices_Index_l3 N x l m (i : Int)) fun r => decide (0 ≤ r) = decide (x ∈ l.drop i)
  | 0, i, h, h2 => by omega
  | m + 1, i, h, h2 => by
    rw [slices_Index_l3_s]
    by_cases hi : i < l.length
    · rw [lt_t (by omega), ct, getE_n hi, bs, List.drop_eq_getElem_cons hi]
      refine sat_dec (fun e => ?_) fun e => ?_
      · exact sat_some (by rw [decide_eq_true (by omega), decide_eq_true]; rw [e]; exact List.mem_cons_self ..)
      · rw [r64 (by omega) (by omega)]
        have := index_spec N x l hl m (i + 1) (by omega) hi
        simp only [Int.natCast_add, Int.cast_ofNat_Int] at this
        refine this.mono fun r hr => ?_
        rw [hr]
        have : (x ∈ l[i] :: l.drop (i + 1)) ↔ x ∈ l.drop (i + 1) := ⟨fun h => (List.mem_cons.1 h).resolve_left (fun e2 => e e2), List.mem_cons_of_mem _⟩
        rw [decide_eq_decide]; exact this.symm
    · rw [lt_f (by omega), cf, List.drop_eq_nil_of_le (by omega)]
      exact sat_some (by simp)
theorem contains_prog (N : Nat) (hN : 5000 < N) (l : List Int) (hl : l.length ≤ 5000) (x : Int) : slices_Contains_O N l x = some (decide (x ∈ l)) := by
  obtain ⟨r, h1, h2⟩ := index_spec N x l hl N 0 (by omega) (by omega)
  unfold slices_Contains_O slices_Index_O
  rw [show slices_Index_l3 N x l N 0 = some r from h1, bs, h2]
  rfl
theorem in19 (N : Nat) (hN : 5000 < N) (l : List Int) (hl : l.length ≤ 5000) (x : Int) : pantomimeref19_In_O N l x = some (decide (x ∈ l)) := by
  apply Sat.eq
  unfold pantomimeref19_In_O
  have key : ∀ (m i : Nat), l.length < m + i → i ≤ l.length → Sat (pantomimeref19_In_l3 N x l m (i : Int)) (· = decide (x ∈ l.drop i)) := by
    intro m
    induction m with
    | zero => intro i h h2; omega
    | succ m ih =>
      intro i h h2
      rw [pantomimeref19_In_l3_s]
      by_cases hi : i < l.length
      · rw [lt_t (by omega), ct, getE_n hi, bs, List.drop_eq_getElem_cons hi]
        refine sat_dec (fun e => ?_) fun e => ?_
        · exact sat_some (by rw [decide_eq_true]; rw [e]; exact List.mem_cons_self ..)
        · rw [r64 (by omega) (by omega)]
          have := ih (i + 1) (by omega) hi
          simp only [Int.natCast_add, Int.cast_ofNat_Int] at this
          refine this.mono fun r hr => ?_
          rw [hr]
          have : (x ∈ l[i] :: l.drop (i + 1)) ↔ x ∈ l.drop (i + 1) := ⟨fun h => (List.mem_cons.1 h).resolve_left (fun e2 => e e2.symm), List.mem_cons_of_mem _⟩
          rw [decide_eq_decide]; exact this.symm
      · rw [lt_f (by omega), cf, List.drop_eq_nil_of_le (by omega)]
        exact sat_some (by simp)
  exact key N 0 (by omega) (by omega)
def opens (p : Int → Bool) : List DValue → List Int
  | k :: v :: l => (bif hasB v && p k.N then [v.N] else []) ++ opens p l
  | _ => []
theorem opens_cons (p : Int → Bool) (k v : DValue) (l : List DValue) : opens p (k :: v :: l) = (bif hasB v && p k.N then [v.N] else []) ++ opens p l := rfl
theorem opens_len (p : Int → Bool) : ∀ l : List DValue, (opens p l).length ≤ l.length
  | [] => Nat.le_refl _
  | [_] => Nat.zero_le _
  | k :: v :: l => by
    have := opens_len p l
    rw [opens_cons, List.length_append]
    cases hasB v && p k.N <;> simp <;> omega
theorem opens_mem {p : Int → Bool} {x : Int} : ∀ {l : List DValue}, x ∈ opens p l → ∃ v ∈ l, v.N = x
  | [], h => by cases h
  | [_], h => by cases h
  | k :: v :: l, h => by
    rw [opens_cons, List.mem_append] at h
    rcases h with h | h
    · cases hb : hasB v && p k.N
      · rw [hb] at h; cases h
      · rw [hb] at h; exact ⟨v, by simp, (List.mem_singleton.1 h).symm⟩
    · obtain ⟨w, h1, h2⟩ := opens_mem h
      exact ⟨w, by simp [h1], h2⟩
theorem kind_has (v : DValue) : ((bif decide (v.Kind = 7) then (some true) else (some (decide (v.Kind = 9)))) : Option Bool) = some (hasB v) := by unfold hasB; cases decide (v.Kind = 7) <;> rfl
def opensL (N : Nat) (c : DCell) (l : List Int) : List Int := bif isWM N c then opens (fun x => decide (x ∈ l)) c.More else []
theorem opensL_len (N : Nat) (c : DCell) (l : List Int) : (opensL N c l).length ≤ c.More.length := by
  unfold opensL
  cases isWM N c
  · exact Nat.zero_le _
  · exact opens_len _ _
theorem opensL_mem {N : Nat} {c : DCell} {l : List Int} {x : Int} (h : x ∈ opensL N c l) : ∃ v ∈ c.Slots ++ c.More, v.N = x := by
  unfold opensL at h
  cases hw : isWM N c
  · rw [hw] at h; cases h
  · rw [hw] at h
    obtain ⟨v, h1, h2⟩ := opens_mem h
    exact ⟨v, by simp [h1], h2⟩
theorem opens_body (N : Nat) (hN : 5000 < N) (l : List Int) (hl : l.length ≤ 5000) (k v : DValue) (s : List Int) (hs : s.length ≤ 5000) : liftR (fun x st => weak_Opens_b12 N l x st) (k, v) (none, s) = some (true, (none, s ++ (bif hasB v && decide (k.N ∈ l) then [v.N] else []))) := by
  unfold liftR weak_Opens_b12
  simp only [kind_has, bs, contains_prog N hN l hl]
  cases hasB v
  · simp only [cf, bs, Bool.false_and, List.append_nil]; rfl
  · simp only [ct, bs, Bool.true_and]
    cases decide (k.N ∈ l)
    · simp only [cf, List.append_nil]; rfl
    · simp only [ct]
      rw [rF (by simp; omega)]
      rfl
theorem entries_prog (N : Nat) (hN : 5000 < N) (l : List Int) (hl : l.length ≤ 5000) (c : DCell) (hc : c.More.length ≤ 1000) (he : c.More.length % 2 = 0) : ∀ (m i : Nat) (s : List Int), c.More.length < m + i → i ≤ c.More.length → i % 2 = 0 → s.length ≤ i → weak_entries_c1_l4 N (liftR (fun x st => weak_Opens_b12 N l x st)) c m (i : Int) (none, s) = some (none, s ++ opens (fun x => decide (x ∈ l)) (c.More.drop i))
  | 0, i, s, h, h2, _, _ => by omega
  | m + 1, i, s, h, h2, h3, h4 => by
    rw [weak_entries_c1_l4_s, r64 (a := (i : Int) + 1) (by omega) (by omega)]
    by_cases hi : i < c.More.length
    · have hi1 : i + 1 < c.More.length := by omega
      have hl1 : getE c.More ((i : Int) + 1) = some c.More[i + 1] := by
        have := getE_n hi1
        simpa using this
      rw [lt_t (by omega), ct, getE_n hi, bs, r64 (a := (i : Int) + 1) (by omega) (by omega), hl1, bs, opens_body N hN l hl _ _ s (by omega), bs]
      simp only [nt, cf]
      rw [r64 (by omega) (by omega)]
      have hlen : (s ++ (bif hasB c.More[i + 1] && decide (c.More[i].N ∈ l) then [c.More[i + 1].N] else [])).length ≤ i + 2 := by
        cases hasB c.More[i + 1] && decide (c.More[i].N ∈ l) <;> simp <;> omega
      have := entries_prog N hN l hl c hc he m (i + 2) _ (by omega) (by omega) (by omega) hlen
      simp only [Int.natCast_add, Int.cast_ofNat_Int] at this
      rw [this, List.drop_eq_getElem_cons hi, List.drop_eq_getElem_cons hi1, opens_cons, List.append_assoc]
    · rw [lt_f (by omega), cf, List.drop_eq_nil_of_le (by omega)]
      simp [opens]
theorem opens_prog (N : Nat) (hN : 5000 < N) (l : List Int) (hl : l.length ≤ 5000) (c : DCell) (hS : c.Slots.length ≤ 1000) (hc : c.More.length ≤ 1000) : weak_Opens_O N c l = some (opensL N c l) := by
  obtain ⟨-, h1, h2⟩ := is_ref N (by omega) c hS hc
  unfold weak_Opens_O opensL weak_entries_c1_O
  rw [h1, bs]
  cases hw : isWM N c
  · rfl
  · have e : weak_entries_O N c = some () := rfl
    have := entries_prog N hN l hl c hc (h2 hw) N 0 [] (by omega) (by omega) rfl (by simp)
    simp only [nt, cf, ct, e, bs]
    have h3 : weak_entries_c1_l4 N (liftR (fun x st => weak_Opens_b12 N l x st)) c N 0 (none, []) = some (none, [] ++ opens (fun x => decide (x ∈ l)) (c.More.drop 0)) := this
    rw [h3, bs]
    rfl
end Go.Proofs.Ytmbaennilhdieaa
