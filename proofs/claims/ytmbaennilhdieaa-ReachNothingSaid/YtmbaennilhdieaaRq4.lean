/- Plain: valid cells and weak maps, on both sides. -/
import Derived.Test.YtmbaennilhdieaaRq3
namespace Go.Proofs.Ytmbaennilhdieaa
open Go.RowKit

theorem more_eq (N : Nat) (hN : 2000 < N) (c : DCell) (hc : c.More.length ≤ 1000) : cell_moreRight_O N c.Kind c.More = pantomimeref15_more_O N c := by
  obtain ⟨b2, h2, h2', -⟩ := entries_eq N hN 2 (.inl rfl) c.More hc
  obtain ⟨b4, h4, h4', -⟩ := entries_eq N hN 4 (.inr rfl) ((c.More.drop ((1 : Int).toNat)).take (c.More.length - (1 : Int).toNat)) (by rw [List.length_take, List.length_drop]; omega)
  have e2 : cell_entriesRight_O N c.More 2 = pantomimeref15_entries_O N c.More 2 := h2.trans h2'.symm
  have e4 : cell_entriesRight_O N ((c.More.drop ((1 : Int).toNat)).take (c.More.length - (1 : Int).toNat)) 4 = pantomimeref15_entries_O N ((c.More.drop ((1 : Int).toNat)).take (c.More.length - (1 : Int).toNat)) 4 := h4.trans h4'.symm
  unfold cell_moreRight_O pantomimeref15_more_O cell_moreRight_j4 pantomimeref15_more_j6
  rw [e2, e4]
  rfl
theorem may_lift (N : Nat) (c : DCell) (b : Bool) (v : DValue) : ∃ y, pantomimeref15_May_O N v = some y ∧ liftR (fun x st => cell_Right_b14 N c x st) (b, v) (none, ()) = some (y, (bif y then none else some Exit.ret, ())) := by
  obtain ⟨y, hy⟩ := may_some N v
  refine ⟨y, hy, ?_⟩
  unfold liftR cell_Right_b14
  simp only [may_eq, hy, bs]
  cases y <;> rfl
theorem right_more (N : Nat) (c : DCell) (hc : c.More.length ≤ 1000) : ∀ (m i : Nat), c.More.length < m + i → i ≤ c.More.length → ∃ b, pantomimeref15_Right_l20 N c m (i : Int) = (bif b then pantomimeref15_Right_j19 N c else some false) ∧
    cell_all_c1_l15 N (liftR (fun x st => cell_Right_b14 N c x st)) c m (i : Int) (none, ()) = some (bif b then none else some Exit.ret, ())
  | 0, i, h, h2 => by omega
  | m + 1, i, h, h2 => by
    rw [pantomimeref15_Right_l20_s, cell_all_c1_l15_s]
    by_cases hi : i < c.More.length
    · rw [lt_t (by omega), ct, ct, getE_n hi, bs, bs]
      have hs : (bif !decide (c.Kind = 8) then ((bif !decide (c.Kind = 10) then (some true) else (some (decide ((i : Int).tmod 2 = 0)))).bind fun b22 => some b22) else (some false)) = some (strongB c.Kind i) := by
        unfold strongB; cases decide (c.Kind = 8) <;> cases decide (c.Kind = 10) <;> rfl
      obtain ⟨y, h3, h4⟩ := may_lift N c (strongB c.Kind i) c.More[i]
      rw [hs, bs, h3, h4, bs, bs]
      cases y
      · simp only [nf, nt, ct, cf]
        exact ⟨false, cf.symm, by rw [cf]⟩
      · obtain ⟨b, h5, h6⟩ := right_more N c hc m (i + 1) (by omega) hi
        simp only [Int.natCast_add, Int.cast_ofNat_Int] at h5 h6
        simp only [nt, cf, ct]
        rw [r64 (by omega) (by omega), r64 (by omega) (by omega)]
        exact ⟨b, h5, h6⟩
    · rw [lt_f (by omega), cf, cf]
      exact ⟨true, ct.symm, by rw [ct]⟩
theorem right_slots (N : Nat) (hN : 2000 < N) (c : DCell) (hS : c.Slots.length ≤ 1000) (hc : c.More.length ≤ 1000) : ∀ (m i : Nat), c.Slots.length < m + i → i ≤ c.Slots.length → ∃ b, pantomimeref15_Right_l12 N c m (i : Int) = (bif b then pantomimeref15_Right_j19 N c else some false) ∧
    cell_all_c1_l6 N (liftR (fun x st => cell_Right_b14 N c x st)) c m (i : Int) (none, ()) = some (bif b then none else some Exit.ret, ())
  | 0, i, h, h2 => by omega
  | m + 1, i, h, h2 => by
    rw [pantomimeref15_Right_l12_s, cell_all_c1_l6_s]
    by_cases hi : i < c.Slots.length
    · rw [lt_t (by omega), ct, ct, getE_n hi, bs, bs]
      obtain ⟨y, h3, h4⟩ := may_lift N c true c.Slots[i]
      rw [h3, h4, bs, bs]
      cases y
      · simp only [nf, nt, ct, cf]
        exact ⟨false, cf.symm, by rw [cf]⟩
      · obtain ⟨b, h5, h6⟩ := right_slots N hN c hS hc m (i + 1) (by omega) hi
        simp only [Int.natCast_add, Int.cast_ofNat_Int] at h5 h6
        simp only [nt, cf, ct]
        rw [r64 (by omega) (by omega), r64 (by omega) (by omega)]
        exact ⟨b, h5, h6⟩
    · rw [lt_f (by omega), cf, cf]
      exact right_more N c hc N 0 (by omega) (by omega)
theorem right_eq (N : Nat) (hN : 2000 < N) (c : DCell) (hS : c.Slots.length ≤ 1000) (hc : c.More.length ≤ 1000) : cell_Right_O N c = pantomimeref15_Right_O N c := by
  unfold cell_Right_O pantomimeref15_Right_O cell_all_c1_O
  have hAge : ((bif !decide (c.Age = 0) then (some (!decide (c.Age = 1))) else (some false)).bind fun b10 => some b10) = (some (decide (c.Age < 0) || decide (1 < c.Age)) : Option Bool) := by
    by_cases h0 : c.Age = 0
    · rw [h0]; rfl
    · by_cases h1 : c.Age = 1
      · rw [h1]; rfl
      · rw [eq_f h0, eq_f h1]
        by_cases h2 : c.Age < 0
        · rw [lt_t h2]; rfl
        · rw [lt_t (a := 1) (b := c.Age) (by omega), lt_f (a := c.Age) (by omega)]; rfl
  obtain ⟨b, h1, h2⟩ := right_slots N hN c hS hc N 0 (by omega) (by omega)
  have h1' : pantomimeref15_Right_l12 N c N 0 = (bif b then pantomimeref15_Right_j19 N c else some false) := h1
  have h2' : cell_all_c1_l6 N (liftR (fun x st => cell_Right_b14 N c x st)) c N 0 (none, ()) = some (bif b then none else some Exit.ret, ()) := h2
  have e : cell_all_O N c = some () := rfl
  rw [hAge, h1', h2', e]
  have tail : ((some ()).bind fun (y12 : Unit) => (some ((bif b then none else some Exit.ret : Option Exit), ())).bind fun y15 => caseX y15.1 ((cell_slotsRight_O N c).bind fun y19 => (bif y19 then ((cell_moreRight_O N c.Kind c.More).bind fun y21 => some y21) else (some false)).bind fun b20 => some b20) (some false) (fun _ => none)) = (bif b then pantomimeref15_Right_j19 N c else some false) := by
    cases b
    · rfl
    · rw [slots_eq, more_eq N hN c hc]; rfl
  rw [tail]
  cases decide (c.Kind < 1) <;> cases decide (11 < c.Kind) <;> cases decide (c.Shape < 0) <;> cases decide (c.Flags < 0) <;> cases decide (63 < c.Flags) <;> cases decide (c.Age < 0) <;> cases decide (1 < c.Age) <;> rfl
theorem opt_bool {m : Option Bool} {x : Bool} : m = some x → (m.bind fun b => some b) = some x := fun h => by rw [h]; rfl
/-- a valid cell has an answer; a weak map that is valid holds pairs -/
theorem right_some (N : Nat) (hN : 2000 < N) (c : DCell) (hS : c.Slots.length ≤ 1000) (hc : c.More.length ≤ 1000) (h8 : c.Kind = 8) : ∃ b, pantomimeref15_Right_O N c = some b ∧ (b = true → c.More.length % 2 = 0) := by
  obtain ⟨b1, g1, -⟩ := right_slots N hN c hS hc N 0 (by omega) (by omega)
  have g1' : pantomimeref15_Right_l12 N c N 0 = (bif b1 then pantomimeref15_Right_j19 N c else some false) := g1
  obtain ⟨b2, -, h2, h3⟩ := entries_eq N hN 2 (.inl rfl) c.More hc
  have hm : pantomimeref15_more_O N c = some b2 := by
    unfold pantomimeref15_more_O pantomimeref15_more_j6
    rw [h8, lt_f (by omega)]
    show ((pantomimeref15_entries_O N c.More 2).bind fun y37 => some y37) = _
    exact opt_bool h2
  have hs : ∃ b3, pantomimeref15_slots_O N c = some b3 := by
    unfold pantomimeref15_slots_O
    rw [h8]
    have : pantomimeref15_Props_O N 8 = some true := rfl
    rw [this, bs, ct, bs, ct]
    by_cases hl : 1 ≤ (c.Slots.length : Int)
    · rw [le_t hl, ct, bs, getE_at (xs := c.Slots) (i := 0) (by omega) (by omega), bs]
      cases decide ((c.Slots.length : Int) ≤ 1025)
      · exact ⟨_, rfl⟩
      · cases decide (c.Slots[(0 : Int).toNat].Kind = 1) <;> exact ⟨_, rfl⟩
    · rw [le_f (by omega)]; exact ⟨_, rfl⟩
  obtain ⟨b3, hs⟩ := hs
  have hj : pantomimeref15_Right_j19 N c = some (b3 && b2) := by
    unfold pantomimeref15_Right_j19
    rw [hs, hm]
    cases b3 <;> rfl
  unfold pantomimeref15_Right_O
  rw [g1', hj]
  have fin : ∃ b, ((bif b1 then some (b3 && b2) else some false) : Option Bool) = some b ∧ (b = true → c.More.length % 2 = 0) := by
    cases b1
    · exact ⟨false, rfl, fun h => by cases h⟩
    · exact ⟨b3 && b2, rfl, fun h => h3 (by cases b3 <;> cases b2 <;> first | rfl | cases h)⟩
  obtain ⟨b, e1, e2⟩ := fin
  rw [e1]
  have ff : ∃ b', (some false : Option Bool) = some b' ∧ (b' = true → c.More.length % 2 = 0) := ⟨false, rfl, fun h => by cases h⟩
  cases decide (c.Kind < 1) <;> cases decide (11 < c.Kind) <;> cases decide (c.Shape < 0) <;> cases decide (c.Flags < 0) <;> cases decide (63 < c.Flags) <;> cases decide (c.Age < 0) <;> cases decide (1 < c.Age) <;> first | exact ff | exact ⟨b, rfl, e2⟩
/-- whether a cell is a valid weak map -/
def isWM (N : Nat) (c : DCell) : Bool := decide (c.Kind = 8) && (pantomimeref15_Right_O N c).getD false
theorem is_ref (N : Nat) (hN : 2000 < N) (c : DCell) (hS : c.Slots.length ≤ 1000) (hc : c.More.length ≤ 1000) : pantomimeref17_Is_O N c = some (isWM N c) ∧ weak_is_O N c = some (isWM N c) ∧ (isWM N c = true → c.More.length % 2 = 0) := by
  unfold pantomimeref17_Is_O weak_is_O isWM
  rw [right_eq N hN c hS hc]
  by_cases h8 : c.Kind = 8
  · obtain ⟨b, h1, h2⟩ := right_some N hN c hS hc h8
    rw [h1, h8]
    exact ⟨rfl, rfl, h2⟩
  · rw [eq_f h8]
    exact ⟨rfl, rfl, fun h => by cases h⟩
end Go.Proofs.Ytmbaennilhdieaa
