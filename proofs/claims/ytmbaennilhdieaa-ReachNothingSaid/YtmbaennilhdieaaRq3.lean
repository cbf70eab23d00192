/- Plain: a valid cell, on both sides. -/
import Derived.Test.YtmbaennilhdieaaRq2
namespace Go.Proofs.Ytmbaennilhdieaa
open Go.RowKit

theorem has_props (N : Nat) (k : Int) : cell_has_O N k = pantomimeref15_Props_O N k := by
  unfold cell_has_O pantomimeref15_Props_O cell_has_j1
  by_cases h1 : k = 1
  · subst h1; rfl
  by_cases h2 : k = 2
  · subst h2; rfl
  by_cases h3 : k = 3
  · subst h3; rfl
  by_cases h6 : k = 6
  · subst h6; rfl
  by_cases h8 : k = 8
  · subst h8; rfl
  by_cases h9 : k = 9
  · subst h9; rfl
  by_cases h10 : k = 10
  · subst h10; rfl
  rw [eq_f h1, eq_f h2, eq_f h3, eq_f h6, eq_f h8, eq_f h9, eq_f h10]; rfl
theorem slots_eq (N : Nat) (c : DCell) : cell_slotsRight_O N c = pantomimeref15_slots_O N c := by
  unfold cell_slotsRight_O pantomimeref15_slots_O
  rw [has_props]; rfl
theorem may_eq (N : Nat) (v : DValue) : cell_may_O N v = pantomimeref15_May_O N v := by
  unfold cell_may_O pantomimeref15_May_O cell_may_j9
  by_cases h5 : v.Kind = 5
  · rw [h5]; rfl
  rw [eq_f h5]
  simp only [cf]
  by_cases hr : v.Kind < 0 ∨ 9 < v.Kind
  · have h2 : v.Kind ≠ 2 := by omega
    have h3 : v.Kind ≠ 3 := by omega
    have h6 : v.Kind ≠ 6 := by omega
    have h7 : v.Kind ≠ 7 := by omega
    have h9 : v.Kind ≠ 9 := by omega
    have e1 : ((bif decide (v.Kind < 0) then (some true) else (some (decide (9 < v.Kind)))) : Option Bool) = some true := by
      rcases hr with h | h
      · rw [lt_t h]; rfl
      · rw [lt_t (a := 9) h]; cases decide (v.Kind < 0) <;> rfl
    rw [e1, bs, ct, eq_f h2, eq_f h3, eq_f h6, eq_f h7, eq_f h9]
    simp only [cf]
    have e2 : (((bif decide (v.N = 0) then (some (decide (0 ≤ v.Kind))) else (some false)).bind fun b14 => (bif b14 then (some (decide (v.Kind ≤ 9))) else (some false)).bind fun b15 => some b15) : Option Bool) = some false := by
      cases decide (v.N = 0)
      · rfl
      · rcases hr with h | h
        · rw [le_f (a := 0) (b := v.Kind) (by omega)]; rfl
        · rw [le_f (a := v.Kind) (b := 9) (by omega)]; cases decide (0 ≤ v.Kind) <;> rfl
    rw [e2]
    cases s : (v.S.toList == (⟨#[]⟩ : ByteArray).toList) <;> rfl
  · have e1 : ((bif decide (v.Kind < 0) then (some true) else (some (decide (9 < v.Kind)))) : Option Bool) = some false := by
      rw [lt_f (a := v.Kind) (b := 0) (by omega), lt_f (a := 9) (b := v.Kind) (by omega)]; rfl
    rw [e1, bs, cf]
    cases hs : (v.S.toList == (⟨#[]⟩ : ByteArray).toList)
    · rfl
    · simp only [nt, cf]
      by_cases h2 : v.Kind = 2
      · rw [h2]; rfl
      rw [eq_f h2]; simp only [cf]
      by_cases h3 : v.Kind = 3
      · rw [h3]; rfl
      rw [eq_f h3]; simp only [cf]
      by_cases h6 : v.Kind = 6
      · rw [h6]; rfl
      rw [eq_f h6]; simp only [cf]
      by_cases h7 : v.Kind = 7
      · rw [h7]; rfl
      rw [eq_f h7]; simp only [cf]
      by_cases h9 : v.Kind = 9
      · rw [h9]; rfl
      rw [eq_f h9, le_t (a := 0) (by omega), le_t (a := v.Kind) (by omega)]
      cases decide (v.N = 0) <;> rfl
theorem may_some (N : Nat) (v : DValue) : ∃ b, pantomimeref15_May_O N v = some b := by
  unfold pantomimeref15_May_O
  cases decide (v.Kind < 0) <;> cases decide (9 < v.Kind) <;> cases decide (v.Kind = 5) <;> cases decide (v.N = 0) <;> cases (v.S.toList == (⟨#[]⟩ : ByteArray).toList) <;> cases decide (v.Kind = 2) <;> cases decide (v.Kind = 3) <;> cases decide ((-9007199254740992) ≤ v.N) <;> cases decide (v.Kind = 6) <;> cases decide (v.Kind = 7) <;> cases decide (v.Kind = 9) <;> exact ⟨_, rfl⟩
/-- entries of a fixed size: by pieces, and by places -/
theorem entries_loop (N : Nat) (k : Nat) (hk : k = 2 ∨ k = 4) (l : List DValue) (hl : l.length ≤ 1000) : ∀ (m i : Nat), l.length < m + i → i ≤ l.length → (l.length - i) % k = 0 → ∃ b, pantomimeref15_entries_l5 N (k : Int) l m (i : Int) = some b ∧
    slices_Chunk_l4 N (liftR (fun x st => cell_entriesRight_b9 N (k : Int) x st)) l (k : Int) m (i : Int) (none, ()) = some (bif b then (none, ()) else (some .ret, ()))
  | 0, i, h, h2, _ => by omega
  | m + 1, i, h, h2, h3 => by
    by_cases hi : i < l.length
    · have hik : i + k ≤ l.length := by
        rcases hk with rfl | rfl <;> omega
      have hmin : (min (k : Int) (((l.drop (i : Int).toNat).take (l.length - (i : Int).toNat)).length : Int)) = k := by
        rw [List.length_take, List.length_drop, Int.toNat_natCast]; omega
      have hto : ((i : Int) + (k : Int)).toNat = i + k := by omega
      have hx : ∀ j, j < k → getE ((l.drop i).take k) (j : Int) = l[i + j]? := fun j hj => by
        rw [getE_nat, List.getElem?_take, if_pos hj, List.getElem?_drop]
      have hk0 := hx 0 (by omega)
      have hk1 := hx 1 (by omega)
      rw [List.getElem?_eq_getElem (by omega)] at hk0 hk1
      have hl0 : getE l (i : Int) = some l[i] := getE_n hi
      have hl1 : getE l ((i : Int) + 1) = some (l[i + 1]'(by omega)) := by
        have := getE_n (xs := l) (i := i + 1) (by omega)
        simpa using this
      obtain ⟨b, hb1, hb2⟩ := entries_loop N k hk l hl m (i + k) (by omega) hik (by rcases hk with rfl | rfl <;> omega)
      simp only [Int.natCast_add] at hb1 hb2
      have fin : ∀ b', (bif b' then some false else req (in64 ((i : Int) + (k : Int))) (pantomimeref15_entries_l5 N (k : Int) l m ((i : Int) + (k : Int)))) = some (bif b' then false else b) := fun b' => by
        cases b'
        · rw [cf, r64 (by omega) (by omega), hb1]; rfl
        · rfl
      have fin2 : ∀ b' : Bool, ((bif b' then (some (some Exit.ret, ())) else (some (none, ())) : Option (Option Exit × Unit)).map fun r => (r.1.isNone, r)) = some (!b', (bif b' then some Exit.ret else none, ())) := fun b' => by cases b' <;> rfl
      have goal : ∀ b', ((some (!b', ((bif b' then some Exit.ret else none : Option Exit), ())) : Option (Bool × (Option Exit × Unit))).bind fun y14 => bif !y14.1 then (some y14.2) else (req (in64 ((i : Int) + (k : Int))) ((slices_Chunk_l4 N (liftR (fun x st => cell_entriesRight_b9 N (k : Int) x st)) l (k : Int) m) ((i : Int) + (k : Int)) y14.2))) = some (bif (bif b' then false else b) then (none, ()) else (some .ret, ())) := fun b' => by
        cases b'
        · rw [bs]
          simp only [nf, nt, cf]
          rw [r64 (by omega) (by omega)]
          exact hb2
        · rfl
      have lift : ∀ (x : List DValue) (b' : Bool), cell_entriesRight_b9 N (k : Int) x () = (bif b' then (some (some Exit.ret, ())) else (some (none, ()))) → liftR (fun x st => cell_entriesRight_b9 N (k : Int) x st) x (none, ()) = some (!b', (bif b' then some Exit.ret else none, ())) := fun x b' hb => by
        unfold liftR
        simp only [hb]
        exact fin2 b'
      have key : ∃ b', ((getE l (i : Int)).bind fun x8 => (bif !decide (x8.Kind = 7) then (some true) else (req (in64 ((i : Int) + 1)) ((getE l ((i : Int) + 1)).bind fun x11 => some (decide (x11.Kind = 8))))).bind fun b9 => bif b9 then (some false) else ((bif decide ((k : Int) = 4) then (req (in64 ((i : Int) + 2)) ((getE l ((i : Int) + 2)).bind fun x15 => (pantomimeref15_none_O N x15 7).bind fun y16 => (bif !y16 then (some true) else (req (in64 ((i : Int) + 3)) ((getE l ((i : Int) + 3)).bind fun x19 => (pantomimeref15_num_O N x19 0 9007199254740992).bind fun y20 => some (!y20)))).bind fun b17 => some b17)) else (some false)).bind fun b13 => bif b13 then (some false) else (req (in64 ((i : Int) + (k : Int))) ((pantomimeref15_entries_l5 N (k : Int) l m) ((i : Int) + (k : Int)))))) = some (bif b' then false else b) ∧ cell_entriesRight_b9 N (k : Int) ((l.drop i).take k) () = (bif b' then (some (some Exit.ret, ())) else (some (none, ()))) := by
        unfold cell_entriesRight_b9
        simp only [Int.cast_ofNat_Int, Int.natCast_zero, Int.natCast_one] at hk0 hk1
        rw [hl0, bs, r64 (a := (i : Int) + 1) (by omega) (by omega), hl1, bs]
        have hk0' : getE ((l.drop i).take k) 0 = some l[i] := hk0
        have hk1' : getE ((l.drop i).take k) 1 = some (l[i + 1]'(by omega)) := hk1
        simp only [hk0', bs, hk1']
        cases h7 : (!decide (l[i].Kind = 7))
        · simp only [cf, bs]
          cases h8 : decide ((l[i + 1]'(by omega)).Kind = 8)
          · simp only [cf]
            rcases hk with rfl | rfl
            · simp only [show decide (((2 : Nat) : Int) = 4) = false from rfl, cf, bs]
              have f := fin false
              rw [cf] at f
              refine ⟨false, ?_, rfl⟩
              exact f
            · have hk2 := hx 2 (by omega)
              have hk3 := hx 3 (by omega)
              rw [List.getElem?_eq_getElem (by omega)] at hk2 hk3
              have hk2' : getE ((l.drop i).take 4) 2 = some (l[i + 2]'(by omega)) := hk2
              have hk3' : getE ((l.drop i).take 4) 3 = some (l[i + 3]'(by omega)) := hk3
              have hl2 : getE l ((i : Int) + 2) = some (l[i + 2]'(by omega)) := by
                have := getE_n (xs := l) (i := i + 2) (by omega)
                simpa using this
              have hl3 : getE l ((i : Int) + 3) = some (l[i + 3]'(by omega)) := by
                have := getE_n (xs := l) (i := i + 3) (by omega)
                simpa using this
              simp only [show decide (((4 : Nat) : Int) = 4) = true from rfl, ct]
              rw [r64 (a := (i : Int) + 2) (by omega) (by omega), hl2, bs, hk2', bs, r64 (a := (i : Int) + 3) (by omega) (by omega), hl3, bs, hk3']
              have en : ∀ v, cell_orNone_O N v 7 = pantomimeref15_none_O N v 7 := fun v => rfl
              have em : ∀ v, cell_number_O N v 0 9007199254740992 = pantomimeref15_num_O N v 0 9007199254740992 := fun v => rfl
              have hn : ∃ b1, pantomimeref15_none_O N (l[i + 2]'(by omega)) 7 = some b1 := by unfold pantomimeref15_none_O; cases decide ((l[i + 2]'(by omega)).Kind = 0) <;> exact ⟨_, rfl⟩
              have hm : ∃ b1, pantomimeref15_num_O N (l[i + 3]'(by omega)) 0 9007199254740992 = some b1 := by unfold pantomimeref15_num_O; cases decide ((l[i + 3]'(by omega)).Kind = 3) <;> cases decide (0 ≤ (l[i + 3]'(by omega)).N) <;> exact ⟨_, rfl⟩
              obtain ⟨b1, hn⟩ := hn
              obtain ⟨b2, hm⟩ := hm
              simp only [bs, en, em, hn, hm]
              cases b1
              · simp only [nf, ct, bs]
                exact ⟨true, rfl, rfl⟩
              · simp only [nt, cf, bs]
                exact ⟨!b2, fin (!b2), by cases b2 <;> rfl⟩
          · exact ⟨true, rfl, rfl⟩
        · exact ⟨true, rfl, rfl⟩
      obtain ⟨b', e1, e2⟩ := key
      refine ⟨bif b' then false else b, ?_, ?_⟩
      · rw [pantomimeref15_entries_l5_s, lt_t (by omega), ct]
        exact e1
      · rw [slices_Chunk_l4_s, lt_t (by omega), ct, hmin, req_t (show (0 : Int) ≤ (i : Int) ∧ (i : Int).toNat ≤ l.length ∧ l.length ≤ l.length from ⟨by omega, by omega, Nat.le_refl _⟩), r64 (a := (i : Int) + (k : Int)) (by omega) (by omega), r64 (a := (i : Int) + (k : Int)) (by omega) (by omega)]
        rw [req_t (show (0 : Int) ≤ (i : Int) ∧ (0 : Int) ≤ (i : Int) + (k : Int) ∧ (i : Int).toNat ≤ ((i : Int) + (k : Int)).toNat ∧ ((i : Int) + (k : Int)).toNat ≤ l.length from ⟨by omega, by omega, by omega, by omega⟩), hto, Int.toNat_natCast, show i + k - i = k by omega, lift _ b' e2]
        exact goal b'
    · rw [pantomimeref15_entries_l5_s, slices_Chunk_l4_s, lt_f (by omega), cf, cf]
      exact ⟨true, rfl, rfl⟩
theorem entries_eq (N : Nat) (hN : 2000 < N) (k : Nat) (hk : k = 2 ∨ k = 4) (l : List DValue) (hl : l.length ≤ 1000) : ∃ b, cell_entriesRight_O N l (k : Int) = some b ∧ pantomimeref15_entries_O N l (k : Int) = some b ∧ (b = true → l.length % k = 0) := by
  unfold cell_entriesRight_O pantomimeref15_entries_O
  have hk0 : (k : Int) ≠ 0 := by rcases hk with rfl | rfl <;> decide
  rw [req_t hk0, req_t hk0]
  have ht : (l.length : Int).tmod (k : Int) = ((l.length % k : Nat) : Int) := by
    rw [Int.tmod_eq_emod_of_nonneg (by omega)]; rfl
  rw [ht]
  by_cases h : l.length % k = 0
  · rw [eq_t (by omega)]
    obtain ⟨b, h1, h2⟩ := entries_loop N k hk l hl N 0 (by omega) (by omega) (by simpa using h)
    have e : slices_Chunk_157_O N l (k : Int) = some () := by
      unfold slices_Chunk_157_O; rw [lt_f (by rcases hk with rfl | rfl <;> omega), cf]
    unfold slices_Chunk_O
    simp only [nt, cf, e, bs]
    have h1' : pantomimeref15_entries_l5 N (k : Int) l N 0 = some b := h1
    have h2' : slices_Chunk_l4 N (liftR (fun x st => cell_entriesRight_b9 N (k : Int) x st)) l (k : Int) N 0 (none, ()) = some (bif b then (none, ()) else (some .ret, ())) := h2
    rw [h1', h2', bs]
    exact ⟨b, by cases b <;> rfl, rfl, fun _ => h⟩
  · rw [eq_f (by omega)]
    exact ⟨false, rfl, rfl, fun h => by cases h⟩
end Go.Proofs.Ytmbaennilhdieaa
