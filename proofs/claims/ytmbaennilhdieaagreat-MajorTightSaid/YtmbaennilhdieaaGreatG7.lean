/- Merged texts: part 7. No conditions of their own. -/
import Derived.Test.YtmbaennilhdieaaGreatG6
import Derived.ProofKit
import Derived.Test.YtmbaennilhdieaaGreatG3
/- Plain: cells at addresses, on both sides. -/
namespace Go.Proofs.YtmbaennilhdieaaGreat
open Go.RowKit
def zeroC : DCell := ⟨0, 0, 0, 0, [], []⟩
def cellAt (m : DMemory) (a : Int) : Option DCell := if a < 1 then none else if a % 2 = 1 then m.Young[((a - 1) / 2).toNat]? else m.Old[((a - 2) / 2).toNat]?
def hasM (m : DMemory) (a : Int) : Bool := (cellAt m a).isSome
def atM (m : DMemory) (a : Int) : DCell := (cellAt m a).getD zeroC
structure Small (m : DMemory) (roots : List DValue) : Prop where
 young : m.Young.length ≤ 600
 old : m.Old.length ≤ 600
 roots : roots.length ≤ 600
 cells : ∀ c ∈ m.Young ++ m.Old, c.Slots.length ≤ 600 ∧ c.More.length ≤ 600
theorem cellAt_mem {m : DMemory} {a : Int} {c : DCell} (h : cellAt m a = some c) : c ∈ m.Young ++ m.Old := by
 unfold cellAt at h
 split at h
 ·cases h
 ·split at h
  ·exact List.mem_append_left _ (List.mem_of_getElem? h)
  ·exact List.mem_append_right _ (List.mem_of_getElem? h)
theorem Small.at_ {m : DMemory} {roots : List DValue} (h : Small m roots) (a : Int) : (atM m a).Slots.length ≤ 600 ∧ (atM m a).More.length ≤ 600 := by
 unfold atM
 cases hc : cellAt m a with
 | none => exact ⟨by simp [zeroC], by simp [zeroC]⟩
 | some c => exact h.cells c (cellAt_mem hc)
theorem hasM_pos {m : DMemory} {a : Int} (h : hasM m a = true) : 0 < a := by
 unfold hasM cellAt at h
 split at h
 ·cases h
 ·omega
theorem hasM_le {m : DMemory} {roots : List DValue} (hs : Small m roots) {a : Int} (h : hasM m a = true) : a ≤ 1200 := by
 have h1 := hs.young; have h2 := hs.old
 unfold hasM cellAt at h
 split at h
 ·cases h
 ·split at h
  ·have := (List.getElem?_eq_some_iff.1 (Option.isSome_iff_exists.1 h).choose_spec).1
   omega
  ·have := (List.getElem?_eq_some_iff.1 (Option.isSome_iff_exists.1 h).choose_spec).1
   omega
theorem tdiv2 {a : Int} (h : 0 ≤ a) : a.tdiv 2 = a / 2 := Int.tdiv_eq_ediv_of_nonneg h
theorem tmod2 {a : Int} (h : 0 ≤ a) : a.tmod 2 = a % 2 := Int.tmod_eq_emod_of_nonneg h
theorem isSome_lt {α : Type} (l : List α) (i : Nat) : (l[i]?).isSome = decide ((i : Int) < (l.length : Int)) := by
 by_cases h : i < l.length
 ·rw [List.getElem?_eq_getElem h, decide_eq_true (by omega)]; rfl
 ·rw [List.getElem?_eq_none (by omega), decide_eq_false (by omega)]; rfl
theorem addr_cases (m : DMemory) (a : Int) : (a < 1 ∧ cellAt m a = none) ∨ (∃ k : Nat, a = 2 * (k : Int) + 1 ∧ cellAt m a = m.Young[k]?) ∨ (∃ k : Nat, a = 2 * (k : Int) + 2 ∧ cellAt m a = m.Old[k]?) := by
 by_cases h : a < 1
 ·exact .inl ⟨h, by unfold cellAt; rw [if_pos h]⟩
 ·by_cases h2 : a % 2 = 1
  ·refine .inr (.inl ⟨((a - 1) / 2).toNat, by omega, ?_⟩)
   unfold cellAt; rw [if_neg h, if_pos h2]
  ·refine .inr (.inr ⟨((a - 2) / 2).toNat, by omega, ?_⟩)
   unfold cellAt; rw [if_neg h, if_neg h2]
theorem tdiv_in64 {a : Int} (h : in64 a) : -4611686018427387904 ≤ a.tdiv 2 ∧ a.tdiv 2 ≤ 4611686018427387904 := by
 unfold in64 at h
 by_cases h0 : 0 ≤ a
 ·rw [tdiv2 h0]; omega
 ·have h1 : (-a).tdiv 2 = -(a.tdiv 2) := Int.neg_tdiv a 2
  rw [tdiv2 (by omega)] at h1
  omega
theorem place_spec (N : Nat) (m : DMemory) (a : Int) (h : in64 a) : Sat (reach_place_O N m a) fun r => r.2.2 = hasM m a ∧ (hasM m a = true → getE r.1 r.2.1 = cellAt m a) := by
 have hd := tdiv_in64 h
 unfold reach_place_O
 rw [r64 (by omega) (by omega)]
 unfold reach_place_j5 hasM
 rcases addr_cases m a with ⟨h1, h2⟩ | ⟨k, h1, h2⟩ | ⟨k, h1, h2⟩
 ·rw [h2]
  refine sat_dec (fun _ => ?_) fun _ => ?_
  ·rw [r64 (by omega) (by omega), r64 (by omega) (by omega), lt_f (a := 0) (b := a) (by omega), cf, bs]
   exact sat_some ⟨rfl, fun h => by cases h⟩
  ·rw [lt_f (a := 0) (b := a) (by omega), cf, bs]
   exact sat_some ⟨rfl, fun h => by cases h⟩
 ·subst h1
  rw [h2, tmod2 (by omega), tdiv2 (by omega), eq_f (by omega), cf, lt_t (by omega), ct, bs, show (2 * (k : Int) + 1) / 2 = k by omega]
  exact sat_some ⟨(isSome_lt _ _).symm, fun _ => getE_nat _ _⟩
 ·subst h1
  rw [h2, tmod2 (by omega), tdiv2 (by omega), eq_t (by omega), ct, lt_t (by omega), ct, bs, show (2 * (k : Int) + 2) / 2 - 1 = k by omega]
  rw [r64 (by omega) (by omega), r64 (by omega) (by omega)]
  exact sat_some ⟨(isSome_lt _ _).symm, fun _ => getE_nat _ _⟩
theorem has_prog (N : Nat) (m : DMemory) (a : Int) (h : in64 a) : reach_Has_O N m a = some (hasM m a) := by
 obtain ⟨r, h1, h2, -⟩ := place_spec N m a h
 unfold reach_Has_O
 rw [h1, bs, h2]
theorem copy_spec (N : Nat) (c : DCell) (h : c.Slots.length ≤ 600 ∧ c.More.length ≤ 600) : cell_Copy_O N c = some c := by
 unfold cell_Copy_O slices_Clone_O
 rw [rF (by simp; omega), bs, rF (by simp; omega), bs]
 rfl
theorem at_prog (N : Nat) {m : DMemory} {roots : List DValue} (hs : Small m roots) (a : Int) (h : in64 a) : reach_At_O N m a = some (atM m a) := by
 obtain ⟨r, h1, h2, h3⟩ := place_spec N m a h
 unfold reach_At_O atM
 rw [h1, bs, h2]
 unfold hasM at *
 cases hc : cellAt m a with
 | none => rfl
 | some c =>
  have h4 := h3 (by rw [hc]; rfl)
  rw [hc] at h4
  have h5 := copy_spec N c (hs.cells c (cellAt_mem hc))
  simp only [Option.isSome_some, nt, cf, h4, bs, h5]
  rfl
theorem has_ref (N : Nat) (m : DMemory) (a : Int) (h : in64 a) : r19_Has_O N m a = some (hasM m a) := by
 unfold in64 at h
 unfold r19_Has_O hasM
 rcases addr_cases m a with ⟨h1, h2⟩ | ⟨k, h1, h2⟩ | ⟨k, h1, h2⟩
 ·rw [h2, lt_t h1]; rfl
 ·subst h1
  rw [h2, lt_f (by omega), cf, tmod2 (by omega), eq_t (by omega), ct, tdiv2 (by omega), show (2 * (k : Int) + 1 - 1) / 2 = k by omega, isSome_lt]
  rw [req_t (by unfold in64; omega), req_t (by unfold in64; omega)]
 ·subst h1
  rw [h2, lt_f (by omega), cf, tmod2 (by omega), eq_f (by omega), cf, tdiv2 (by omega), show (2 * (k : Int) + 2 - 2) / 2 = k by omega, isSome_lt]
  rw [req_t (by unfold in64; omega), req_t (by unfold in64; omega)]
theorem at_ref (N : Nat) (m : DMemory) (a : Int) (h : in64 a) : r19_At_O N m a = some (atM m a) := by
 have hh := has_ref N m a h
 unfold in64 at h
 unfold r19_At_O atM
 rw [hh, bs]
 unfold hasM
 rcases addr_cases m a with ⟨h1, h2⟩ | ⟨k, h1, h2⟩ | ⟨k, h1, h2⟩
 ·rw [h2]; rfl
 ·cases hc : m.Young[k]? with
  | none => rw [h2, hc]; rfl
  | some c =>
   rw [h2, hc]
   subst h1
   simp only [Option.isSome_some, nt, cf]
   rw [tmod2 (by omega), eq_t (by omega), ct, tdiv2 (by omega), show (2 * (k : Int) + 1 - 1) / 2 = k by omega, getE_nat, hc, bs]
   rw [req_t (by unfold in64; omega), req_t (by unfold in64; omega)]
   rfl
 ·cases hc : m.Old[k]? with
  | none => rw [h2, hc]; rfl
  | some c =>
   rw [h2, hc]
   subst h1
   simp only [Option.isSome_some, nt, cf]
   rw [tmod2 (by omega), eq_f (by omega), cf, tdiv2 (by omega), show (2 * (k : Int) + 2 - 2) / 2 = k by omega, getE_nat, hc, bs]
   rw [req_t (by unfold in64; omega), req_t (by unfold in64; omega)]
   rfl
end Go.Proofs.YtmbaennilhdieaaGreat
/- Plain: a valid cell, on both sides. -/
namespace Go.Proofs.YtmbaennilhdieaaGreat
open Go.RowKit
theorem has_props (N : Nat) (k : Int) : cell_has_O N k = r15_Props_O N k := by
 unfold cell_has_O r15_Props_O cell_has_j1
 by_cases h1 : k = 1
 ·subst h1; rfl
 by_cases h2 : k = 2
 ·subst h2; rfl
 by_cases h3 : k = 3
 ·subst h3; rfl
 by_cases h6 : k = 6
 ·subst h6; rfl
 by_cases h8 : k = 8
 ·subst h8; rfl
 by_cases h9 : k = 9
 ·subst h9; rfl
 by_cases h10 : k = 10
 ·subst h10; rfl
 rw [eq_f h1, eq_f h2, eq_f h3, eq_f h6, eq_f h8, eq_f h9, eq_f h10]; rfl
theorem slots_eq (N : Nat) (c : DCell) : cell_slotsRight_O N c = r15_slots_O N c := by
 unfold cell_slotsRight_O r15_slots_O
 rw [has_props]; rfl
theorem may_eq (N : Nat) (v : DValue) : cell_may_O N v = r15_May_O N v := by
 unfold cell_may_O r15_May_O cell_may_j9
 by_cases h5 : v.Kind = 5
 ·rw [h5]; rfl
 rw [eq_f h5]
 simp only [cf]
 by_cases hr : v.Kind < 0 ∨ 9 < v.Kind
 ·have h2 : v.Kind ≠ 2 := by omega
  have h3 : v.Kind ≠ 3 := by omega
  have h6 : v.Kind ≠ 6 := by omega
  have h7 : v.Kind ≠ 7 := by omega
  have h9 : v.Kind ≠ 9 := by omega
  have e1 : ((bif decide (v.Kind < 0) then (some true) else (some (decide (9 < v.Kind)))) : Option Bool) = some true := by
   rcases hr with h | h
   ·rw [lt_t h]; rfl
   ·rw [lt_t (a := 9) h]; cases decide (v.Kind < 0) <;> rfl
  rw [e1, bs, ct, eq_f h2, eq_f h3, eq_f h6, eq_f h7, eq_f h9]
  simp only [cf]
  have e2 : (((bif decide (v.N = 0) then (some (decide (0 ≤ v.Kind))) else (some false)).bind fun b14 => (bif b14 then (some (decide (v.Kind ≤ 9))) else (some false)).bind fun b15 => some b15) : Option Bool) = some false := by
   cases decide (v.N = 0)
   ·rfl
   ·rcases hr with h | h
    ·rw [le_f (a := 0) (b := v.Kind) (by omega)]; rfl
    ·rw [le_f (a := v.Kind) (b := 9) (by omega)]; cases decide (0 ≤ v.Kind) <;> rfl
  rw [e2]
  cases s : (v.S.toList == (⟨#[]⟩ : ByteArray).toList) <;> rfl
 ·have e1 : ((bif decide (v.Kind < 0) then (some true) else (some (decide (9 < v.Kind)))) : Option Bool) = some false := by
   rw [lt_f (a := v.Kind) (b := 0) (by omega), lt_f (a := 9) (b := v.Kind) (by omega)]; rfl
  rw [e1, bs, cf]
  cases hs : (v.S.toList == (⟨#[]⟩ : ByteArray).toList)
  ·rfl
  ·simp only [nt, cf]
   by_cases h2 : v.Kind = 2
   ·rw [h2]; rfl
   rw [eq_f h2]; simp only [cf]
   by_cases h3 : v.Kind = 3
   ·rw [h3]; rfl
   rw [eq_f h3]; simp only [cf]
   by_cases h6 : v.Kind = 6
   ·rw [h6]; rfl
   rw [eq_f h6]; simp only [cf]
   by_cases h7 : v.Kind = 7
   ·rw [h7]; rfl
   rw [eq_f h7]; simp only [cf]
   by_cases h9 : v.Kind = 9
   ·rw [h9]; rfl
   rw [eq_f h9, le_t (a := 0) (by omega), le_t (a := v.Kind) (by omega)]
   cases decide (v.N = 0) <;> rfl
theorem may_some (N : Nat) (v : DValue) : ∃ b, r15_May_O N v = some b := by
 unfold r15_May_O
 cases decide (v.Kind < 0) <;> cases decide (9 < v.Kind) <;> cases decide (v.Kind = 5) <;> cases decide (v.N = 0) <;> cases (v.S.toList == (⟨#[]⟩ : ByteArray).toList) <;> cases decide (v.Kind = 2) <;> cases decide (v.Kind = 3) <;> cases decide ((-9007199254740992) ≤ v.N) <;> cases decide (v.Kind = 6) <;> cases decide (v.Kind = 7) <;> cases decide (v.Kind = 9) <;> exact ⟨_, rfl⟩
theorem entries_loop (N : Nat) (k : Nat) (hk : k = 2 ∨ k = 4) (l : List DValue) (hl : l.length ≤ 1000) : ∀ (m i : Nat), l.length < m + i → i ≤ l.length → (l.length - i) % k = 0 → ∃ b, r15_entries_l5 N (k : Int) l m (i : Int) = some b ∧
  slices_Chunk_l4 N (liftR (fun x st => cell_entriesRight_b9 N (k : Int) x st)) l (k : Int) m (i : Int) (none, ()) = some (bif b then (none, ()) else (some .ret, ()))
 | 0, i, h, h2, _ => by omega
 | m + 1, i, h, h2, h3 => by
  by_cases hi : i < l.length
  ·have hik : i + k ≤ l.length := by
    rcases hk with rfl | rfl <;> omega
   have hmin : (min (k : Int) (((l.drop (i : Int).toNat).take (l.length - (i : Int).toNat)).length : Int)) = k := by
    rw [List.length_take, List.length_drop, Int.toNat_natCast]; omega
   have hto : ((i : Int) + (k : Int)).toNat = i + k := by omega
   have hx : ∀ j, j < k → getE ((l.drop i).take k) (j : Int) = l[i + j]? := fun j hj => by
    rw [getE_nat, List.getElem?_take, if_pos hj, List.getElem?_drop]
   have hk0 := hx 0 (by omega)
   have hk1 := hx 1 (by omega)
   rw [List.getElem?_eq_getElem (by omega)] at hk0 hk1
   have hl0 : getE l (i : Int) = some l[i] := getE_n hi
   have hl1 : getE l ((i : Int) + 1) = some (l[i + 1]'(by omega)) := by
    have := getE_n (xs := l) (i := i + 1) (by omega)
    simpa using this
   obtain ⟨b, hb1, hb2⟩ := entries_loop N k hk l hl m (i + k) (by omega) hik (by rcases hk with rfl | rfl <;> omega)
   simp only [Int.natCast_add] at hb1 hb2
   have fin : ∀ b', (bif b' then some false else req (in64 ((i : Int) + (k : Int))) (r15_entries_l5 N (k : Int) l m ((i : Int) + (k : Int)))) = some (bif b' then false else b) := fun b' => by
    cases b'
    ·rw [cf, r64 (by omega) (by omega), hb1]; rfl
    ·rfl
   have fin2 : ∀ b' : Bool, ((bif b' then (some (some Exit.ret, ())) else (some (none, ())) : Option (Option Exit × Unit)).map fun r => (r.1.isNone, r)) = some (!b', (bif b' then some Exit.ret else none, ())) := fun b' => by cases b' <;> rfl
   have goal : ∀ b', ((some (!b', ((bif b' then some Exit.ret else none : Option Exit), ())) : Option (Bool × (Option Exit × Unit))).bind fun y14 => bif !y14.1 then (some y14.2) else (req (in64 ((i : Int) + (k : Int))) ((slices_Chunk_l4 N (liftR (fun x st => cell_entriesRight_b9 N (k : Int) x st)) l (k : Int) m) ((i : Int) + (k : Int)) y14.2))) = some (bif (bif b' then false else b) then (none, ()) else (some .ret, ())) := fun b' => by
    cases b'
    ·rw [bs]
     simp only [nf, nt, cf]
     rw [r64 (by omega) (by omega)]
     exact hb2
    ·rfl
   have lift : ∀ (x : List DValue) (b' : Bool), cell_entriesRight_b9 N (k : Int) x () = (bif b' then (some (some Exit.ret, ())) else (some (none, ()))) → liftR (fun x st => cell_entriesRight_b9 N (k : Int) x st) x (none, ()) = some (!b', (bif b' then some Exit.ret else none, ())) := fun x b' hb => by
    unfold liftR
    simp only [hb]
    exact fin2 b'
   have key : ∃ b', ((getE l (i : Int)).bind fun x8 => (bif !decide (x8.Kind = 7) then (some true) else (req (in64 ((i : Int) + 1)) ((getE l ((i : Int) + 1)).bind fun x11 => some (decide (x11.Kind = 8))))).bind fun b9 => bif b9 then (some false) else ((bif decide ((k : Int) = 4) then (req (in64 ((i : Int) + 2)) ((getE l ((i : Int) + 2)).bind fun x15 => (r15_none_O N x15 7).bind fun y16 => (bif !y16 then (some true) else (req (in64 ((i : Int) + 3)) ((getE l ((i : Int) + 3)).bind fun x19 => (r15_num_O N x19 0 9007199254740992).bind fun y20 => some (!y20)))).bind fun b17 => some b17)) else (some false)).bind fun b13 => bif b13 then (some false) else (req (in64 ((i : Int) + (k : Int))) ((r15_entries_l5 N (k : Int) l m) ((i : Int) + (k : Int)))))) = some (bif b' then false else b) ∧ cell_entriesRight_b9 N (k : Int) ((l.drop i).take k) () = (bif b' then (some (some Exit.ret, ())) else (some (none, ()))) := by
    unfold cell_entriesRight_b9
    simp only [Int.cast_ofNat_Int, Int.natCast_zero, Int.natCast_one] at hk0 hk1
    rw [hl0, bs, r64 (a := (i : Int) + 1) (by omega) (by omega), hl1, bs]
    have hk0' : getE ((l.drop i).take k) 0 = some l[i] := hk0
    have hk1' : getE ((l.drop i).take k) 1 = some (l[i + 1]'(by omega)) := hk1
    simp only [hk0', bs, hk1']
    cases h7 : (!decide (l[i].Kind = 7))
    ·simp only [cf, bs]
     cases h8 : decide ((l[i + 1]'(by omega)).Kind = 8)
     ·simp only [cf]
      rcases hk with rfl | rfl
      ·simp only [show decide (((2 : Nat) : Int) = 4) = false from rfl, cf, bs]
       have f := fin false
       rw [cf] at f
       refine ⟨false, ?_, rfl⟩
       exact f
      ·have hk2 := hx 2 (by omega)
       have hk3 := hx 3 (by omega)
       rw [List.getElem?_eq_getElem (by omega)] at hk2 hk3
       have hk2' : getE ((l.drop i).take 4) 2 = some (l[i + 2]'(by omega)) := hk2
       have hk3' : getE ((l.drop i).take 4) 3 = some (l[i + 3]'(by omega)) := hk3
       have hl2 : getE l ((i : Int) + 2) = some (l[i + 2]'(by omega)) := by
        have := getE_n (xs := l) (i := i + 2) (by omega)
        simpa using this
       have hl3 : getE l ((i : Int) + 3) = some (l[i + 3]'(by omega)) := by
        have := getE_n (xs := l) (i := i + 3) (by omega)
        simpa using this
       simp only [show decide (((4 : Nat) : Int) = 4) = true from rfl, ct]
       rw [r64 (a := (i : Int) + 2) (by omega) (by omega), hl2, bs, hk2', bs, r64 (a := (i : Int) + 3) (by omega) (by omega), hl3, bs, hk3']
       have en : ∀ v, cell_orNone_O N v 7 = r15_none_O N v 7 := fun v => rfl
       have em : ∀ v, cell_number_O N v 0 9007199254740992 = r15_num_O N v 0 9007199254740992 := fun v => rfl
       have hn : ∃ b1, r15_none_O N (l[i + 2]'(by omega)) 7 = some b1 := by unfold r15_none_O; cases decide ((l[i + 2]'(by omega)).Kind = 0) <;> exact ⟨_, rfl⟩
       have hm : ∃ b1, r15_num_O N (l[i + 3]'(by omega)) 0 9007199254740992 = some b1 := by unfold r15_num_O; cases decide ((l[i + 3]'(by omega)).Kind = 3) <;> cases decide (0 ≤ (l[i + 3]'(by omega)).N) <;> exact ⟨_, rfl⟩
       obtain ⟨b1, hn⟩ := hn
       obtain ⟨b2, hm⟩ := hm
       simp only [bs, en, em, hn, hm]
       cases b1
       ·simp only [nf, ct, bs]
        exact ⟨true, rfl, rfl⟩
       ·simp only [nt, cf, bs]
        exact ⟨!b2, fin (!b2), by cases b2 <;> rfl⟩
     ·exact ⟨true, rfl, rfl⟩
    ·exact ⟨true, rfl, rfl⟩
   obtain ⟨b', e1, e2⟩ := key
   refine ⟨bif b' then false else b, ?_, ?_⟩
   ·rw [r15_entries_l5_s, lt_t (by omega), ct]
    exact e1
   ·rw [slices_Chunk_l4_s, lt_t (by omega), ct, hmin, req_t (show (0 : Int) ≤ (i : Int) ∧ (i : Int).toNat ≤ l.length ∧ l.length ≤ l.length from ⟨by omega, by omega, Nat.le_refl _⟩), r64 (a := (i : Int) + (k : Int)) (by omega) (by omega), r64 (a := (i : Int) + (k : Int)) (by omega) (by omega)]
    rw [req_t (show (0 : Int) ≤ (i : Int) ∧ (0 : Int) ≤ (i : Int) + (k : Int) ∧ (i : Int).toNat ≤ ((i : Int) + (k : Int)).toNat ∧ ((i : Int) + (k : Int)).toNat ≤ l.length from ⟨by omega, by omega, by omega, by omega⟩), hto, Int.toNat_natCast, show i + k - i = k by omega, lift _ b' e2]
    exact goal b'
  ·rw [r15_entries_l5_s, slices_Chunk_l4_s, lt_f (by omega), cf, cf]
   exact ⟨true, rfl, rfl⟩
theorem entries_eq (N : Nat) (hN : 2000 < N) (k : Nat) (hk : k = 2 ∨ k = 4) (l : List DValue) (hl : l.length ≤ 1000) : ∃ b, cell_entriesRight_O N l (k : Int) = some b ∧ r15_entries_O N l (k : Int) = some b ∧ (b = true → l.length % k = 0) := by
 unfold cell_entriesRight_O r15_entries_O
 have hk0 : (k : Int) ≠ 0 := by rcases hk with rfl | rfl <;> decide
 rw [req_t hk0, req_t hk0]
 have ht : (l.length : Int).tmod (k : Int) = ((l.length % k : Nat) : Int) := by
  rw [Int.tmod_eq_emod_of_nonneg (by omega)]; rfl
 rw [ht]
 by_cases h : l.length % k = 0
 ·rw [eq_t (by omega)]
  obtain ⟨b, h1, h2⟩ := entries_loop N k hk l hl N 0 (by omega) (by omega) (by simpa using h)
  have e : slices_Chunk_191_O N l (k : Int) = some () := by
   unfold slices_Chunk_191_O; rw [lt_f (by rcases hk with rfl | rfl <;> omega), cf]
  unfold slices_Chunk_O
  simp only [nt, cf, e, bs]
  have h1' : r15_entries_l5 N (k : Int) l N 0 = some b := h1
  have h2' : slices_Chunk_l4 N (liftR (fun x st => cell_entriesRight_b9 N (k : Int) x st)) l (k : Int) N 0 (none, ()) = some (bif b then (none, ()) else (some .ret, ())) := h2
  rw [h1', h2', bs]
  exact ⟨b, by cases b <;> rfl, rfl, fun _ => h⟩
 ·rw [eq_f (by omega)]
  exact ⟨false, rfl, rfl, fun h => by cases h⟩
end Go.Proofs.YtmbaennilhdieaaGreat
/- Plain: valid cells and weak maps, on both sides. -/
namespace Go.Proofs.YtmbaennilhdieaaGreat
open Go.RowKit
theorem more_eq (N : Nat) (hN : 2000 < N) (c : DCell) (hc : c.More.length ≤ 1000) : cell_moreRight_O N c.Kind c.More = r15_more_O N c := by
 obtain ⟨b2, h2, h2', -⟩ := entries_eq N hN 2 (.inl rfl) c.More hc
 obtain ⟨b4, h4, h4', -⟩ := entries_eq N hN 4 (.inr rfl) ((c.More.drop ((1 : Int).toNat)).take (c.More.length - (1 : Int).toNat)) (by rw [List.length_take, List.length_drop]; omega)
 have e2 : cell_entriesRight_O N c.More 2 = r15_entries_O N c.More 2 := h2.trans h2'.symm
 have e4 : cell_entriesRight_O N ((c.More.drop ((1 : Int).toNat)).take (c.More.length - (1 : Int).toNat)) 4 = r15_entries_O N ((c.More.drop ((1 : Int).toNat)).take (c.More.length - (1 : Int).toNat)) 4 := h4.trans h4'.symm
 unfold cell_moreRight_O r15_more_O cell_moreRight_j4 r15_more_j6
 rw [e2, e4]
 rfl
theorem may_lift (N : Nat) (c : DCell) (b : Bool) (v : DValue) : ∃ y, r15_May_O N v = some y ∧ liftR (fun x st => cell_Right_b14 N c x st) (b, v) (none, ()) = some (y, (bif y then none else some Exit.ret, ())) := by
 obtain ⟨y, hy⟩ := may_some N v
 refine ⟨y, hy, ?_⟩
 unfold liftR cell_Right_b14
 simp only [may_eq, hy, bs]
 cases y <;> rfl
theorem right_more (N : Nat) (c : DCell) (hc : c.More.length ≤ 1000) : ∀ (m i : Nat), c.More.length < m + i → i ≤ c.More.length → ∃ b, r15_Right_l20 N c m (i : Int) = (bif b then r15_Right_j19 N c else some false) ∧
  cell_all_c1_l15 N (liftR (fun x st => cell_Right_b14 N c x st)) c m (i : Int) (none, ()) = some (bif b then none else some Exit.ret, ())
 | 0, i, h, h2 => by omega
 | m + 1, i, h, h2 => by
  rw [r15_Right_l20_s, cell_all_c1_l15_s]
  by_cases hi : i < c.More.length
  ·rw [lt_t (by omega), ct, ct, getE_n hi, bs, bs]
   have hs : (bif !decide (c.Kind = 8) then ((bif !decide (c.Kind = 10) then (some true) else (some (decide ((i : Int).tmod 2 = 0)))).bind fun b22 => some b22) else (some false)) = some (strongB c.Kind i) := by
    unfold strongB; cases decide (c.Kind = 8) <;> cases decide (c.Kind = 10) <;> rfl
   obtain ⟨y, h3, h4⟩ := may_lift N c (strongB c.Kind i) c.More[i]
   rw [hs, bs, h3, h4, bs, bs]
   cases y
   ·simp only [nf, nt, ct, cf]
    exact ⟨false, cf.symm, by rw [cf]⟩
   ·obtain ⟨b, h5, h6⟩ := right_more N c hc m (i + 1) (by omega) hi
    simp only [Int.natCast_add, Int.cast_ofNat_Int] at h5 h6
    simp only [nt, cf, ct]
    rw [r64 (by omega) (by omega), r64 (by omega) (by omega)]
    exact ⟨b, h5, h6⟩
  ·rw [lt_f (by omega), cf, cf]
   exact ⟨true, ct.symm, by rw [ct]⟩
theorem right_slots (N : Nat) (hN : 2000 < N) (c : DCell) (hS : c.Slots.length ≤ 1000) (hc : c.More.length ≤ 1000) : ∀ (m i : Nat), c.Slots.length < m + i → i ≤ c.Slots.length → ∃ b, r15_Right_l12 N c m (i : Int) = (bif b then r15_Right_j19 N c else some false) ∧
  cell_all_c1_l6 N (liftR (fun x st => cell_Right_b14 N c x st)) c m (i : Int) (none, ()) = some (bif b then none else some Exit.ret, ())
 | 0, i, h, h2 => by omega
 | m + 1, i, h, h2 => by
  rw [r15_Right_l12_s, cell_all_c1_l6_s]
  by_cases hi : i < c.Slots.length
  ·rw [lt_t (by omega), ct, ct, getE_n hi, bs, bs]
   obtain ⟨y, h3, h4⟩ := may_lift N c true c.Slots[i]
   rw [h3, h4, bs, bs]
   cases y
   ·simp only [nf, nt, ct, cf]
    exact ⟨false, cf.symm, by rw [cf]⟩
   ·obtain ⟨b, h5, h6⟩ := right_slots N hN c hS hc m (i + 1) (by omega) hi
    simp only [Int.natCast_add, Int.cast_ofNat_Int] at h5 h6
    simp only [nt, cf, ct]
    rw [r64 (by omega) (by omega), r64 (by omega) (by omega)]
    exact ⟨b, h5, h6⟩
  ·rw [lt_f (by omega), cf, cf]
   exact right_more N c hc N 0 (by omega) (by omega)
theorem right_eq (N : Nat) (hN : 2000 < N) (c : DCell) (hS : c.Slots.length ≤ 1000) (hc : c.More.length ≤ 1000) : cell_Right_O N c = r15_Right_O N c := by
 unfold cell_Right_O r15_Right_O cell_all_c1_O
 have hAge : ((bif !decide (c.Age = 0) then (some (!decide (c.Age = 1))) else (some false)).bind fun b10 => some b10) = (some (decide (c.Age < 0) || decide (1 < c.Age)) : Option Bool) := by
  by_cases h0 : c.Age = 0
  ·rw [h0]; rfl
  ·by_cases h1 : c.Age = 1
   ·rw [h1]; rfl
   ·rw [eq_f h0, eq_f h1]
    by_cases h2 : c.Age < 0
    ·rw [lt_t h2]; rfl
    ·rw [lt_t (a := 1) (b := c.Age) (by omega), lt_f (a := c.Age) (by omega)]; rfl
 obtain ⟨b, h1, h2⟩ := right_slots N hN c hS hc N 0 (by omega) (by omega)
 have h1' : r15_Right_l12 N c N 0 = (bif b then r15_Right_j19 N c else some false) := h1
 have h2' : cell_all_c1_l6 N (liftR (fun x st => cell_Right_b14 N c x st)) c N 0 (none, ()) = some (bif b then none else some Exit.ret, ()) := h2
 have e : cell_all_O N c = some () := rfl
 rw [hAge, h1', h2', e]
 have tail : ((some ()).bind fun (y12 : Unit) => (some ((bif b then none else some Exit.ret : Option Exit), ())).bind fun y15 => caseX y15.1 ((cell_slotsRight_O N c).bind fun y19 => (bif y19 then ((cell_moreRight_O N c.Kind c.More).bind fun y21 => some y21) else (some false)).bind fun b20 => some b20) (some false) (fun _ => none)) = (bif b then r15_Right_j19 N c else some false) := by
  cases b
  ·rfl
  ·rw [slots_eq, more_eq N hN c hc]; rfl
 rw [tail]
 cases decide (c.Kind < 1) <;> cases decide (11 < c.Kind) <;> cases decide (c.Shape < 0) <;> cases decide (c.Flags < 0) <;> cases decide (63 < c.Flags) <;> cases decide (c.Age < 0) <;> cases decide (1 < c.Age) <;> rfl
theorem opt_bool {m : Option Bool} {x : Bool} : m = some x → (m.bind fun b => some b) = some x := fun h => by rw [h]; rfl
theorem right_some (N : Nat) (hN : 2000 < N) (c : DCell) (hS : c.Slots.length ≤ 1000) (hc : c.More.length ≤ 1000) (h8 : c.Kind = 8) : ∃ b, r15_Right_O N c = some b ∧ (b = true → c.More.length % 2 = 0) := by
 obtain ⟨b1, g1, -⟩ := right_slots N hN c hS hc N 0 (by omega) (by omega)
 have g1' : r15_Right_l12 N c N 0 = (bif b1 then r15_Right_j19 N c else some false) := g1
 obtain ⟨b2, -, h2, h3⟩ := entries_eq N hN 2 (.inl rfl) c.More hc
 have hm : r15_more_O N c = some b2 := by
  unfold r15_more_O r15_more_j6
  rw [h8, lt_f (by omega)]
  show ((r15_entries_O N c.More 2).bind fun y37 => some y37) = _
  exact opt_bool h2
 have hs : ∃ b3, r15_slots_O N c = some b3 := by
  unfold r15_slots_O
  rw [h8]
  have : r15_Props_O N 8 = some true := rfl
  rw [this, bs, ct, bs, ct]
  by_cases hl : 1 ≤ (c.Slots.length : Int)
  ·rw [le_t hl, ct, bs, getE_at (xs := c.Slots) (i := 0) (by omega) (by omega), bs]
   cases decide ((c.Slots.length : Int) ≤ 1025)
   ·exact ⟨_, rfl⟩
   ·cases decide (c.Slots[(0 : Int).toNat].Kind = 1) <;> exact ⟨_, rfl⟩
  ·rw [le_f (by omega)]; exact ⟨_, rfl⟩
 obtain ⟨b3, hs⟩ := hs
 have hj : r15_Right_j19 N c = some (b3 && b2) := by
  unfold r15_Right_j19
  rw [hs, hm]
  cases b3 <;> rfl
 unfold r15_Right_O
 rw [g1', hj]
 have fin : ∃ b, ((bif b1 then some (b3 && b2) else some false) : Option Bool) = some b ∧ (b = true → c.More.length % 2 = 0) := by
  cases b1
  ·exact ⟨false, rfl, fun h => by cases h⟩
  ·exact ⟨b3 && b2, rfl, fun h => h3 (by cases b3 <;> cases b2 <;> first | rfl | cases h)⟩
 obtain ⟨b, e1, e2⟩ := fin
 rw [e1]
 have ff : ∃ b', (some false : Option Bool) = some b' ∧ (b' = true → c.More.length % 2 = 0) := ⟨false, rfl, fun h => by cases h⟩
 cases decide (c.Kind < 1) <;> cases decide (11 < c.Kind) <;> cases decide (c.Shape < 0) <;> cases decide (c.Flags < 0) <;> cases decide (63 < c.Flags) <;> cases decide (c.Age < 0) <;> cases decide (1 < c.Age) <;> first | exact ff | exact ⟨b, rfl, e2⟩
def isWM (N : Nat) (c : DCell) : Bool := decide (c.Kind = 8) && (r15_Right_O N c).getD false
theorem is_ref (N : Nat) (hN : 2000 < N) (c : DCell) (hS : c.Slots.length ≤ 1000) (hc : c.More.length ≤ 1000) : r17_Is_O N c = some (isWM N c) ∧ weak_is_O N c = some (isWM N c) ∧ (isWM N c = true → c.More.length % 2 = 0) := by
 unfold r17_Is_O weak_is_O isWM
 rw [right_eq N hN c hS hc]
 by_cases h8 : c.Kind = 8
 ·obtain ⟨b, h1, h2⟩ := right_some N hN c hS hc h8
  rw [h1, h8]
  exact ⟨rfl, rfl, h2⟩
 ·rw [eq_f h8]
  exact ⟨rfl, rfl, fun h => by cases h⟩
end Go.Proofs.YtmbaennilhdieaaGreat
/- Plain: every cell has an answer whether it is valid; what a valid registry holds. -/
namespace Go.Proofs.YtmbaennilhdieaaGreat
open Go.RowKit
abbrev Tot {ρ : Type} (m : Option ρ) : Prop := Sat m fun _ => True
theorem tot_some {ρ : Type} (x : ρ) : Tot (some x) := sat_some trivial
theorem tot_bif {ρ : Type} {b : Bool} {x y : Option ρ} (hx : b = true → Tot x) (hy : b = false → Tot y) : Tot (bif b then x else y) := sat_cond hx hy
theorem num_tot (N : Nat) (v : DValue) (a b : Int) : Tot (r15_num_O N v a b) := by
 unfold r15_num_O
 refine Sat.bind (P := fun _ => True) (tot_bif (fun _ => tot_some _) fun _ => tot_some _) fun x _ => Sat.bind (P := fun _ => True) (tot_bif (fun _ => tot_some _) fun _ => tot_some _) fun y _ => tot_some _
theorem none_tot (N : Nat) (v : DValue) (a : Int) : Tot (r15_none_O N v a) := by
 unfold r15_none_O
 exact Sat.bind (P := fun _ => True) (tot_bif (fun _ => tot_some _) fun _ => tot_some _) fun x _ => tot_some _
theorem tot_and {c : Bool} {m : Option Bool} (h : c = true → Tot m) : Tot (bif c then m else some false) := tot_bif h fun _ => tot_some _
theorem tot_at {l : List DValue} {i : Nat} {f : DValue → Option Bool} (hi : i < l.length) (h : ∀ v, Tot (f v)) : Tot ((getE l (i : Int)).bind f) := by
 rw [getE_n hi, bs]; exact h _
theorem tot_bind {m : Option Bool} {f : Bool → Option Bool} (h : Tot m) (k : ∀ b, Tot (f b)) : Tot (m.bind f) := Sat.bind h fun b _ => k b
theorem tot_bindP {m : Option Bool} {p : Prop} {f : Bool → Option Bool} (h : Sat m fun b => b = true → p) (k : ∀ b, (b = true → p) → Tot (f b)) : Tot (m.bind f) := Sat.bind h k
theorem slots_tot (N : Nat) (c : DCell) : Tot (r15_slots_O N c) := by
 unfold r15_slots_O
 have hp : Tot (r15_Props_O N c.Kind) := by
  unfold r15_Props_O
  iterate 6 refine tot_bind (tot_bif (fun _ => tot_some _) fun _ => tot_some _) fun _ => ?_
  exact tot_some _
 refine tot_bind hp fun y => tot_bind (tot_bif (fun _ => tot_some _) fun _ => tot_bind (tot_bif (fun _ => tot_some _) fun _ => tot_some _) fun _ => tot_some _) fun b => ?_
 refine tot_bif (fun _ => ?_) fun _ => ?_
 ·refine tot_bindP (p := 0 < c.Slots.length) (sat_dec (fun h => sat_some fun _ => by omega) fun _ => sat_some fun h => by cases h) fun b hb => tot_bind (tot_and fun h => ?_) fun _ => tot_some _
  have h0 := hb h
  refine tot_at (i := 0) h0 fun v => tot_bind (tot_bif (fun _ => tot_some _) fun _ => tot_at (i := 0) h0 fun _ => tot_some _) fun _ => tot_some _
 ·refine tot_bif (fun _ => tot_some _) fun _ => tot_bind (tot_bif (fun _ => tot_some _) fun _ => tot_some _) fun _ => tot_bif (fun _ => tot_some _) fun _ => sat_cond (fun _ => ?_) fun _ => tot_some _
  refine tot_bindP (p := 1 < c.Slots.length) (sat_dec (fun h => ?_) fun _ => sat_some fun h => by cases h) fun b hb => tot_bind (tot_and fun h => ?_) fun _ => tot_some _
  ·rw [show ((0 : Int)) = ((0 : Nat) : Int) from rfl, getE_n (by omega), bs]
   obtain ⟨x, hx, -⟩ := none_tot N c.Slots[0] 7
   rw [hx, bs]; exact sat_some fun _ => by omega
  ·refine tot_at (i := 1) (hb h) fun v => tot_bind (none_tot N v 7) fun _ => tot_some _
theorem at_tot {l : List DValue} {i : Nat} {m : DValue → Option Bool} (hi : i < l.length) (h : ∀ v, Tot (m v)) {p : Prop} (hp : p) : Sat ((getE l (i : Int)).bind fun x => (m x).bind fun y => some y) fun b => b = true → p := by
 rw [getE_n hi, bs]
 obtain ⟨x, hx, -⟩ := h l[i]
 rw [hx, bs]; exact sat_some fun _ => hp
def MoreOk (c : DCell) : Prop := (c.Kind = 8 → c.More.length % 2 = 0) ∧ (c.Kind = 10 → 1 ≤ c.More.length ∧ (c.More.length - 1) % 4 = 0)
theorem more_tot (N : Nat) (hN : 2000 < N) (c : DCell) (hc : c.More.length ≤ 1000) : Sat (r15_more_O N c) fun b => b = true → MoreOk c := by
 have j6 : ∀ p, (p = true → c.Kind = 1 ∨ c.Kind = 5) → Sat (r15_more_j6 N c p) fun b => b = true → MoreOk c := by
  intro p hp
  have other : ∀ {m : Option Bool}, c.Kind ≠ 8 → c.Kind ≠ 10 → Tot m → Sat m fun b => b = true → MoreOk c := fun h8 h10 h => h.mono fun _ _ _ => ⟨fun e => absurd e h8, fun e => absurd e h10⟩
  unfold r15_more_j6
  refine sat_cond (fun h => other (by rcases hp h with e | e <;> omega) (by rcases hp h with e | e <;> omega) (tot_some _)) fun _ => ?_
  refine sat_dec (fun hk => other (by omega) (by omega) ?_) fun _ => ?_
  ·refine tot_bindP (p := 1 < c.More.length) (sat_dec (fun h => at_tot (i := 0) (by omega) (fun v => num_tot N v _ _) (by omega)) fun _ => sat_some fun h => by cases h) fun b hb => tot_bind (tot_and fun h => tot_at (i := 1) (hb h) fun v => tot_bind (none_tot N v 9) fun _ => tot_some _) fun _ => tot_some _
  refine sat_dec (fun hk => other (by omega) (by omega) ?_) fun _ => ?_
  ·refine tot_bindP (p := 0 < c.More.length) (sat_dec (fun h => sat_some fun _ => by omega) fun _ => sat_some fun h => by cases h) fun b hb => tot_bind (tot_and fun h => tot_at (i := 0) (hb h) fun v => tot_bind (none_tot N v 9) fun _ => tot_some _) fun _ => tot_some _
  refine sat_dec (fun hk => other (by omega) (by omega) ?_) fun _ => ?_
  ·refine tot_bindP (p := 1 < c.More.length) (sat_dec (fun h => at_tot (i := 0) (by omega) (fun v => num_tot N v _ _) (by omega)) fun _ => sat_some fun h => by cases h) fun b hb => tot_bind (tot_and fun h => tot_at (i := 1) (hb h) fun v => tot_bind (none_tot N v 9) fun _ => tot_some _) fun _ => tot_some _
  refine sat_dec (fun hk => other (by omega) (by omega) ?_) fun _ => ?_
  ·refine tot_bindP (p := 3 < c.More.length) (sat_dec (fun h => at_tot (i := 2) (by omega) (fun v => num_tot N v _ _) (by omega)) fun _ => sat_some fun h => by cases h) fun b hb => tot_bind (tot_and fun h => tot_at (i := 3) (hb h) fun v => tot_bind (num_tot N v _ _) fun _ => tot_some _) fun _ => tot_some _
  refine sat_dec (fun hk => ?_) fun hk8 => ?_
  ·obtain ⟨b, -, h2, h3⟩ := entries_eq N hN 2 (.inl rfl) c.More hc
   have h2' : r15_entries_O N c.More 2 = some b := h2
   rw [h2', bs]
   exact sat_some fun hb => ⟨fun _ => h3 hb, fun e => absurd e (by omega)⟩
  refine sat_dec (fun hk => ?_) fun hk10 => ?_
  ·refine Sat.bind (P := fun b => b = true → 1 ≤ c.More.length) (sat_dec (fun h => ?_) fun _ => sat_some fun h => by cases h) fun b hb => ?_
   ·rw [show ((0 : Int)) = ((0 : Nat) : Int) from rfl, getE_n (by omega), bs]; exact sat_some fun _ => by omega
   ·refine Sat.bind (P := fun b => b = true → MoreOk c) (sat_cond (fun h => ?_) fun _ => sat_some fun h => by cases h) fun b' hb' => sat_some hb'
    have h1 := hb h
    rw [req_pos ⟨by omega, by show (1 : Int).toNat ≤ _; exact h1, Nat.le_refl _⟩]
    have hl : ((c.More.drop ((1 : Int).toNat)).take (c.More.length - (1 : Int).toNat)).length = c.More.length - 1 := by
     rw [List.length_take, List.length_drop]; show min (c.More.length - 1) (c.More.length - 1) = _; omega
    obtain ⟨b2, -, h2, h3⟩ := entries_eq N hN 4 (.inr rfl) ((c.More.drop ((1 : Int).toNat)).take (c.More.length - (1 : Int).toNat)) (by rw [hl]; omega)
    have h2' : r15_entries_O N ((c.More.drop ((1 : Int).toNat)).take (c.More.length - (1 : Int).toNat)) 4 = some b2 := h2
    rw [h2', bs]
    exact sat_some fun hb2 => ⟨fun e => absurd e (by omega), fun _ => ⟨h1, by have := h3 hb2; rw [hl] at this; exact this⟩⟩
  refine sat_dec (fun hk => other (by omega) (by omega) ?_) fun _ => other hk8 hk10 (tot_some _)
  refine tot_bind ?_ fun _ => tot_some _
  exact tot_bif (fun h => tot_at (i := 0) (by have := of_decide_eq_true h; omega) fun v => tot_bind (num_tot N v _ _) fun _ => tot_some _) fun _ => tot_some _
 unfold r15_more_O
 refine sat_dec (fun _ => sat_some fun h => by cases h) fun _ => sat_dec (fun hk => sat_some fun _ => ⟨fun e => absurd e (by omega), fun e => absurd e (by omega)⟩) fun _ => sat_dec (fun hk => j6 _ fun _ => .inl hk) fun _ => j6 _ fun h => .inr (of_decide_eq_true h)
theorem right_tot (N : Nat) (hN : 2000 < N) (c : DCell) (hS : c.Slots.length ≤ 1000) (hc : c.More.length ≤ 1000) : Sat (r15_Right_O N c) fun b => b = true → MoreOk c := by
 obtain ⟨b1, g1, -⟩ := right_slots N hN c hS hc N 0 (by omega) (by omega)
 have g1' : r15_Right_l12 N c N 0 = (bif b1 then r15_Right_j19 N c else some false) := g1
 have hj : Sat (r15_Right_j19 N c) fun b => b = true → MoreOk c := by
  unfold r15_Right_j19
  refine Sat.bind (slots_tot N c) fun y _ => ?_
  refine Sat.bind (P := fun b => b = true → MoreOk c) (sat_cond (fun _ => Sat.bind (more_tot N hN c hc) fun _ h => sat_some h) fun _ => sat_some fun h => by cases h) fun _ h => sat_some h
 unfold r15_Right_O
 rw [g1']
 iterate 6 refine Sat.bind (P := fun _ => True) (tot_bif (fun _ => tot_some _) fun _ => tot_some _) fun _ _ => ?_
 refine sat_cond (fun _ => sat_some fun h => by cases h) fun _ => sat_cond (fun _ => hj) fun _ => sat_some fun h => by cases h
end Go.Proofs.YtmbaennilhdieaaGreat
/- Plain tools for translated loops: all, folds, equal lists. Over any program. -/
namespace Go.Proofs.YtmbaennilhdieaaGreat
open Go.RowKit
theorem loop_allk {α ρ : Type} (L : Nat → Int → Option ρ) (l : List α) (p : α → Bool) (bad k : Option ρ)
  (step : ∀ m (i : Nat) (h : i < l.length), L (m + 1) (i : Int) = bif p l[i] then L m ((i : Int) + 1) else bad)
  (fin : ∀ m, L (m + 1) (l.length : Int) = k) (N : Nat) (hN : l.length < N) : L N 0 = bif l.all p then k else bad := by
 have key : ∀ m i : Nat, l.length < m + i → i ≤ l.length → L m (i : Int) = bif (l.drop i).all p then k else bad := by
  intro m
  induction m with
  | zero => intro i h1 h2; omega
  | succ m ih =>
   intro i h1 h2
   by_cases hi : i < l.length
   ·rw [step m i hi, List.drop_eq_getElem_cons hi, List.all_cons]
    have h3 := ih (i + 1) (by omega) hi
    rw [show (((i + 1 : Nat)) : Int) = (i : Int) + 1 by omega] at h3
    rw [h3]
    cases p l[i] <;> rfl
   ·have e : i = l.length := by omega
    subst e
    rw [fin, List.drop_length]; rfl
 have := key N 0 (by omega) (by omega)
 simpa using this
theorem loop_eqk {α ρ : Type} [DecidableEq α] (L : Nat → Int → Option ρ) (a b : List α) (bad k : Option ρ) (hl : a.length = b.length)
  (step : ∀ m (i : Nat) (h : i < a.length) (h' : i < b.length), L (m + 1) (i : Int) = bif decide (a[i] = b[i]) then L m ((i : Int) + 1) else bad)
  (fin : ∀ m, L (m + 1) (a.length : Int) = k) (N : Nat) (hN : a.length < N) : L N 0 = bif decide (a = b) then k else bad := by
 have key : ∀ m i : Nat, a.length < m + i → i ≤ a.length → L m (i : Int) = bif decide (a.drop i = b.drop i) then k else bad := by
  intro m
  induction m with
  | zero => intro i h1 h2; omega
  | succ m ih =>
   intro i h1 h2
   by_cases hi : i < a.length
   ·have hi' : i < b.length := by omega
    rw [step m i hi hi', List.drop_eq_getElem_cons hi, List.drop_eq_getElem_cons hi']
    have h3 := ih (i + 1) (by omega) hi
    rw [show (((i + 1 : Nat)) : Int) = (i : Int) + 1 by omega] at h3
    rw [h3]
    by_cases e : a[i] = b[i]
    ·rw [decide_eq_true e, cond_true, e]
     by_cases e2 : a.drop (i + 1) = b.drop (i + 1)
     ·rw [decide_eq_true e2, e2, decide_eq_true rfl]
     ·rw [decide_eq_false e2, decide_eq_false (fun h => e2 (List.cons.inj h).2)]
    ·rw [decide_eq_false e, decide_eq_false (fun h => e (List.cons.inj h).1)]; rfl
   ·have e : i = a.length := by omega
    subst e
    rw [fin, List.drop_length, hl, List.drop_length, decide_eq_true rfl]; rfl
 have := key N 0 (by omega) (by omega)
 simpa using this
theorem eq_loop {α : Type} [DecidableEq α] (L : Nat → Int → Option Bool) (a b : List α)
  (step : a.length = b.length → ∀ m (i : Nat) (h : i < a.length) (h' : i < b.length), L (m + 1) (i : Int) = bif decide (a[i] = b[i]) then L m ((i : Int) + 1) else some false)
  (fin : ∀ m, L (m + 1) (a.length : Int) = some true) (N : Nat) (hN : a.length < N) : (bif !decide ((a.length : Int) = (b.length : Int)) then some false else L N 0) = some (decide (a = b)) := by
 by_cases hl : a.length = b.length
 ·rw [decide_eq_true (p := ((a.length : Int) = (b.length : Int))) (by omega), nt, cf, loop_eqk L a b (some false) (some true) hl (step hl) fin N hN]
  cases decide (a = b) <;> rfl
 ·rw [decide_eq_false (p := ((a.length : Int) = (b.length : Int))) (by omega), nf, ct, decide_eq_false (fun e => hl (by rw [e]))]
def upR {α β : Type} [DecidableEq α] (a : α) (b : β) : List (α × β) → List (α × β)
 | [] => [(a, b)]
 | p :: l => if p.1 = a then (a, b) :: l else p :: upR a b l
theorem upL_upR {α β : Type} [DecidableEq α] (L : List (α × β)) (a : α) (b : β) : upL L a b = upR a b L := by
 have key : ∀ (L : List (α × β)) (j : Nat), (∃ i c, fp a L j = some (i, c) ∧ j ≤ i ∧ L.set (i - j) (a, b) = upR a b L) ∨ (fp a L j = none ∧ L ++ [(a, b)] = upR a b L) := by
  intro L
  induction L with
  | nil => intro j; exact .inr ⟨rfl, rfl⟩
  | cons p l ih =>
   intro j
   obtain ⟨x, y⟩ := p
   by_cases e : a = x
   ·refine .inl ⟨j, y, by simp [fp, e], Nat.le_refl _, ?_⟩
    rw [Nat.sub_self]; simp [upR, e]
   ·have e' : ¬ x = a := fun h => e h.symm
    rcases ih (j + 1) with ⟨i, c, h1, h2, h3⟩ | ⟨h1, h2⟩
    ·refine .inl ⟨i, c, by simp [fp, e, h1], by omega, ?_⟩
     rw [show i - j = (i - (j + 1)) + 1 by omega, List.set_cons_succ, h3]
     simp [upR, e']
    ·exact .inr ⟨by simp [fp, e, h1], by simp [upR, e', h2]⟩
 unfold upL
 rcases key L 0 with ⟨i, c, h1, -, h3⟩ | ⟨h1, h2⟩
 ·rw [h1]; exact h3
 ·rw [h1]; exact h2
theorem lk_cons {α β : Type} [DecidableEq α] (p : α × β) (l : List (α × β)) (x : α) : lk (p :: l) x = if p.1 = x then some p.2 else lk l x := by
 unfold lk
 rw [List.find?_cons]
 by_cases e : p.1 = x <;> simp [e]
theorem lk_up {α β : Type} [DecidableEq α] (L : List (α × β)) (a : α) (b : β) (x : α) : lk (upL L a b) x = if a = x then some b else lk L x := by
 rw [upL_upR]
 induction L with
 | nil => rw [upR, lk_cons]
 | cons p l ih =>
  unfold upR
  by_cases e : p.1 = a
  ·rw [if_pos e, lk_cons, lk_cons, e]
   by_cases e2 : a = x <;> simp [e2]
  ·rw [if_neg e, lk_cons, lk_cons, ih]
   by_cases e2 : p.1 = x
   ·rw [if_pos e2, if_pos e2, if_neg (fun h => e (by rw [e2, h]))]
   ·rw [if_neg e2, if_neg e2]
end Go.Proofs.YtmbaennilhdieaaGreat
/- Plain: valid cells, as a plain predicate. -/
namespace Go.Proofs.YtmbaennilhdieaaGreat
open Go.RowKit
abbrev vZ : DValue := ⟨0, 0, ⟨#[]⟩⟩
def atL (l : List DValue) (i : Nat) : DValue := l.getD i vZ
theorem getE_at0 {l : List DValue} {i : Nat} (h : i < l.length) : getE l (i : Int) = some (atL l i) := by
 rw [getE_n h]; unfold atL; simp [List.getD, h]
def mayB (v : DValue) : Bool := (r15_May_O 0 v).getD false
theorem may_spec (N : Nat) (v : DValue) : r15_May_O N v = some (mayB v) := by
 obtain ⟨b, hb⟩ := may_some 0 v
 have e : r15_May_O N v = r15_May_O 0 v := Eq.trans rfl rfl
 unfold mayB
 rw [e, hb]; rfl
def numB (v : DValue) (a b : Int) : Bool := decide (v.Kind = 3) && (decide (a ≤ v.N) && decide (v.N ≤ b))
def noneB (v : DValue) (k : Int) : Bool := decide (v.Kind = 0) || decide (v.Kind = k)
theorem num_spec (N : Nat) (v : DValue) (a b : Int) : r15_num_O N v a b = some (numB v a b) := by
 unfold r15_num_O numB
 cases decide (v.Kind = 3) <;> cases decide (a ≤ v.N) <;> cases decide (v.N ≤ b) <;> rfl
theorem none_spec (N : Nat) (v : DValue) (k : Int) : r15_none_O N v k = some (noneB v k) := by
 unfold r15_none_O noneB
 cases decide (v.Kind = 0) <;> cases decide (v.Kind = k) <;> rfl
def propsB (k : Int) : Bool := decide (k = 1) || decide (k = 2) || decide (k = 3) || decide (k = 6) || decide (k = 8) || decide (k = 9) || decide (k = 10)
theorem props_spec (N : Nat) (k : Int) : r15_Props_O N k = some (propsB k) := by
 unfold r15_Props_O propsB
 cases decide (k = 1) <;> cases decide (k = 2) <;> cases decide (k = 3) <;> cases decide (k = 6) <;> cases decide (k = 8) <;> cases decide (k = 9) <;> cases decide (k = 10) <;> rfl
def slotsB (k sh fl : Int) (l : List DValue) : Bool :=
 bif propsB k || (decide (k = 7) && decide (0 < l.length)) then decide (1 ≤ l.length) && decide (l.length ≤ 1025) && (decide ((atL l 0).Kind = 1) || decide ((atL l 0).Kind = 7))
 else bif decide (k = 7) then decide (sh = 0) else bif !decide (sh = 0) || !decide (fl = 0) then false else bif decide (k = 5) then decide (l.length = 2) && noneB (atL l 0) 7 && noneB (atL l 1) 7 else decide (l.length = 0)
theorem dec_cast {p q : Prop} [Decidable p] [Decidable q] (h : p ↔ q) : decide p = decide q := by
 by_cases hp : p
 ·rw [decide_eq_true hp, decide_eq_true (h.1 hp)]
 ·rw [decide_eq_false hp, decide_eq_false fun hq => hp (h.2 hq)]
theorem slots_spec (N : Nat) (c : DCell) : r15_slots_O N c = some (slotsB c.Kind c.Shape c.Flags c.Slots) := by
 unfold r15_slots_O slotsB
 rw [props_spec, bs, dec_cast (p := (0 : Int) < (c.Slots.length : Int)) (q := 0 < c.Slots.length) (by omega), dec_cast (p := (1 : Int) ≤ (c.Slots.length : Int)) (q := 1 ≤ c.Slots.length) (by omega), dec_cast (p := (c.Slots.length : Int) ≤ 1025) (q := c.Slots.length ≤ 1025) (by omega), dec_cast (p := (c.Slots.length : Int) = 2) (q := c.Slots.length = 2) (by omega), dec_cast (p := (c.Slots.length : Int) = 0) (q := c.Slots.length = 0) (by omega)]
 have hA : ∀ b : Bool, ((bif decide (1 ≤ c.Slots.length) then some (decide (c.Slots.length ≤ 1025)) else some false).bind fun b8 => (bif b8 then ((getE c.Slots 0).bind fun x10 => (bif decide (x10.Kind = 1) then (some true) else ((getE c.Slots 0).bind fun x12 => some (decide (x12.Kind = 7)))).bind fun b11 => some b11) else (some false)).bind fun b9 => some b9) = some (decide (1 ≤ c.Slots.length) && decide (c.Slots.length ≤ 1025) && (decide ((atL c.Slots 0).Kind = 1) || decide ((atL c.Slots 0).Kind = 7))) := fun _ => by
  by_cases h : 1 ≤ c.Slots.length
  ·have g : getE c.Slots 0 = some (atL c.Slots 0) := getE_at0 (i := 0) (by omega)
   rw [decide_eq_true h, g]
   simp only [bs]
   cases decide (c.Slots.length ≤ 1025) <;> cases decide ((atL c.Slots 0).Kind = 1) <;> cases decide ((atL c.Slots 0).Kind = 7) <;> rfl
  ·rw [decide_eq_false h]; rfl
 have hB : ((bif decide (c.Slots.length = 2) then ((getE c.Slots 0).bind fun x18 => (r15_none_O N x18 7).bind fun y19 => some y19) else (some false)).bind fun b17 => (bif b17 then ((getE c.Slots 1).bind fun x21 => (r15_none_O N x21 7).bind fun y22 => some y22) else (some false)).bind fun b20 => some b20) = some (decide (c.Slots.length = 2) && noneB (atL c.Slots 0) 7 && noneB (atL c.Slots 1) 7) := by
  by_cases h : c.Slots.length = 2
  ·have g : getE c.Slots 0 = some (atL c.Slots 0) := getE_at0 (i := 0) (by omega)
   have g1 : getE c.Slots 1 = some (atL c.Slots 1) := getE_at0 (i := 1) (by omega)
   rw [decide_eq_true h, g, g1]
   simp only [bs, none_spec]
   cases noneB (atL c.Slots 0) 7 <;> cases noneB (atL c.Slots 1) 7 <;> rfl
  ·rw [decide_eq_false h]; rfl
 rw [hA true, hB]
 cases propsB c.Kind <;> cases decide (c.Kind = 7) <;> cases decide (0 < c.Slots.length) <;> cases decide (c.Shape = 0) <;> cases decide (c.Flags = 0) <;> cases decide (c.Kind = 5) <;> rfl
def entB2 : List DValue → Bool
 | k :: v :: r => decide (k.Kind = 7) && !decide (v.Kind = 8) && entB2 r
 | [_] => false
 | [] => true
def entB4 : List DValue → Bool
 | t :: h :: k :: s :: r => decide (t.Kind = 7) && !decide (h.Kind = 8) && (noneB k 7 && numB s 0 9007199254740992) && entB4 r
 | [] => true
 | _ => false
theorem entB2_cons (k v : DValue) (r : List DValue) : entB2 (k :: v :: r) = (decide (k.Kind = 7) && !decide (v.Kind = 8) && entB2 r) := Eq.trans rfl rfl
theorem entB4_cons (t h k s : DValue) (r : List DValue) : entB4 (t :: h :: k :: s :: r) = (decide (t.Kind = 7) && !decide (h.Kind = 8) && (noneB k 7 && numB s 0 9007199254740992) && entB4 r) := Eq.trans rfl rfl
theorem entB2_len : ∀ {l : List DValue}, entB2 l = true → l.length % 2 = 0
 | [], _ => rfl
 | [_], h => by cases h
 | k :: v :: r, h => by
  rw [entB2_cons] at h
  rw [Bool.and_eq_true] at h
  have := entB2_len h.2
  simp only [List.length_cons]; omega
theorem entB4_len : ∀ {l : List DValue}, entB4 l = true → l.length % 4 = 0
 | [], _ => rfl
 | [_], h => by cases h
 | [_, _], h => by cases h
 | [_, _, _], h => by cases h
 | t :: a :: k :: s :: r, h => by
  rw [entB4_cons] at h
  rw [Bool.and_eq_true] at h
  have := entB4_len h.2
  simp only [List.length_cons]; omega
theorem at_drop {l r : List DValue} {i : Nat} {v : DValue} (h : l.drop i = v :: r) : getE l (i : Int) = some v ∧ l.drop (i + 1) = r := by
 have hl : i < l.length := by
  rcases Nat.lt_or_ge i l.length with h1 | h1
  ·exact h1
  ·rw [List.drop_eq_nil_of_le h1] at h; cases h
 rw [List.drop_eq_getElem_cons hl] at h
 obtain ⟨e1, e2⟩ := List.cons.inj h
 exact ⟨by rw [getE_n hl, e1], e2⟩
theorem ent2_spec (N : Nat) (l : List DValue) (hl : l.length ≤ 1000) : ∀ (m i : Nat), l.length < m + i → i ≤ l.length → (l.length - i) % 2 = 0 → r15_entries_l5 N 2 l m (i : Int) = some (entB2 (l.drop i))
 | 0, i, h, h2, _ => by omega
 | m + 1, i, h, h2, h3 => by
  rw [r15_entries_l5_s]
  match hd : l.drop i with
  | [] =>
   have hi : l.length ≤ i := by have := congrArg List.length hd; rw [List.length_drop] at this; simp at this; omega
   rw [lt_f (by omega), cf]; rfl
  | [x] => have := congrArg List.length hd; rw [List.length_drop] at this; simp at this; omega
  | k :: v :: r =>
   have hlen := congrArg List.length hd
   rw [List.length_drop] at hlen; simp only [List.length_cons] at hlen
   obtain ⟨g1, d1⟩ := at_drop hd
   obtain ⟨g2, d2⟩ := at_drop d1
   rw [show (((i + 1 : Nat)) : Int) = (i : Int) + 1 by omega] at g2
   have ih := ent2_spec N l hl m (i + 2) (by omega) (by omega) (by omega)
   rw [show (((i + 2 : Nat)) : Int) = (i : Int) + 2 by omega, d2] at ih
   rw [lt_t (by omega), ct, g1, bs, r64 (by omega) (by omega), g2, bs, decide_eq_false (p := (2 : Int) = 4) (by decide), cf, bs, cf, r64 (by omega) (by omega), ih]
   simp only [entB2_cons]
   cases decide (k.Kind = 7) <;> cases decide (v.Kind = 8) <;> rfl
theorem ent4_spec (N : Nat) (l : List DValue) (hl : l.length ≤ 1000) : ∀ (m i : Nat), l.length < m + i → i ≤ l.length → (l.length - i) % 4 = 0 → r15_entries_l5 N 4 l m (i : Int) = some (entB4 (l.drop i))
 | 0, i, h, h2, _ => by omega
 | m + 1, i, h, h2, h3 => by
  rw [r15_entries_l5_s]
  match hd : l.drop i with
  | [] =>
   have hi : l.length ≤ i := by have := congrArg List.length hd; rw [List.length_drop] at this; simp at this; omega
   rw [lt_f (by omega), cf]; rfl
  | [x] => have := congrArg List.length hd; rw [List.length_drop] at this; simp at this; omega
  | [x, y] => have := congrArg List.length hd; rw [List.length_drop] at this; simp at this; omega
  | [x, y, z] => have := congrArg List.length hd; rw [List.length_drop] at this; simp at this; omega
  | t :: v :: k :: s :: r =>
   have hlen := congrArg List.length hd
   rw [List.length_drop] at hlen; simp only [List.length_cons] at hlen
   obtain ⟨g1, d1⟩ := at_drop hd
   obtain ⟨g2, d2⟩ := at_drop d1
   obtain ⟨g3, d3⟩ := at_drop d2
   obtain ⟨g4, d4⟩ := at_drop d3
   rw [show (((i + 1 : Nat)) : Int) = (i : Int) + 1 by omega] at g2
   rw [show (((i + 1 + 1 : Nat)) : Int) = (i : Int) + 2 by omega] at g3
   rw [show (((i + 1 + 1 + 1 : Nat)) : Int) = (i : Int) + 3 by omega] at g4
   have ih := ent4_spec N l hl m (i + 4) (by omega) (by omega) (by omega)
   rw [show (((i + 4 : Nat)) : Int) = (i : Int) + 4 by omega, d4] at ih
   rw [lt_t (by omega), ct, g1, bs, r64 (by omega) (by omega), g2, bs, decide_eq_true (p := (4 : Int) = 4) rfl, ct, r64 (by omega) (by omega), g3, bs, none_spec, bs, r64 (by omega) (by omega), g4, bs, num_spec, bs, r64 (by omega) (by omega), ih]
   simp only [entB4_cons]
   cases decide (t.Kind = 7) <;> cases decide (v.Kind = 8) <;> cases noneB k 7 <;> cases numB s 0 9007199254740992 <;> rfl
theorem entries2 (N : Nat) (hN : 2000 < N) (l : List DValue) (hl : l.length ≤ 1000) : r15_entries_O N l 2 = some (entB2 l) := by
 unfold r15_entries_O
 rw [req_t (by decide)]
 have e : (l.length : Int).tmod 2 = ((l.length % 2 : Nat) : Int) := by rw [Int.tmod_eq_emod_of_nonneg (by omega)]; omega
 rw [e]
 by_cases h : l.length % 2 = 0
 ·rw [h, decide_eq_true (p := ((0 : Nat) : Int) = 0) rfl, nt, cf]
  exact ent2_spec N l hl N 0 (by omega) (by omega) (by omega)
 ·rw [decide_eq_false (by omega), nf, ct]
  cases hb : entB2 l with
  | false => rfl
  | true => exact absurd (entB2_len hb) h
theorem entries4 (N : Nat) (hN : 2000 < N) (l : List DValue) (hl : l.length ≤ 1000) : r15_entries_O N l 4 = some (entB4 l) := by
 unfold r15_entries_O
 rw [req_t (by decide)]
 have e : (l.length : Int).tmod 4 = ((l.length % 4 : Nat) : Int) := by rw [Int.tmod_eq_emod_of_nonneg (by omega)]; omega
 rw [e]
 by_cases h : l.length % 4 = 0
 ·rw [h, decide_eq_true (p := ((0 : Nat) : Int) = 0) rfl, nt, cf]
  exact ent4_spec N l hl N 0 (by omega) (by omega) (by omega)
 ·rw [decide_eq_false (by omega), nf, ct]
  cases hb : entB4 l with
  | false => rfl
  | true => exact absurd (entB4_len hb) h
def moreB (k : Int) (l : List DValue) : Bool :=
 bif decide (k = 2) then decide (l.length ≤ 4096)
 else bif decide (k = 1) || decide (k = 5) then decide (l.length = 0)
 else bif decide (k = 3) then decide (l.length = 3) && numB (atL l 0) 0 9007199254740992 && noneB (atL l 1) 9
 else bif decide (k = 4) then decide (1 ≤ l.length) && decide (l.length ≤ 4097) && noneB (atL l 0) 9
 else bif decide (k = 6) then decide (l.length = 2) && numB (atL l 0) 0 3 && noneB (atL l 1) 9
 else bif decide (k = 7) then decide (4 ≤ l.length) && numB (atL l 2) 0 1 && numB (atL l 3) 0 9007199254740992
 else bif decide (k = 8) then entB2 l
 else bif decide (k = 10) then decide (1 ≤ l.length) && decide ((atL l 0).Kind = 7) && entB4 (l.drop 1)
 else bif decide (k = 9) then decide (2 ≤ l.length) && numB (atL l 0) 0 2
 else true
theorem more_spec (N : Nat) (hN : 2000 < N) (c : DCell) (hc : c.More.length ≤ 1000) : r15_more_O N c = some (moreB c.Kind c.More) := by
 have h6 : ∀ p : Bool, p = (decide (c.Kind = 1) || decide (c.Kind = 5)) → c.Kind ≠ 2 → r15_more_j6 N c p = some (moreB c.Kind c.More) := by
  intro p hp h2
  subst hp
  unfold r15_more_j6 moreB
  rw [eq_f h2, cf]
  rcases Bool.eq_false_or_eq_true (decide (c.Kind = 1) || decide (c.Kind = 5)) with h15 | h15
  ·rw [h15, ct, ct, dec_cast (p := (c.More.length : Int) = 0) (q := c.More.length = 0) (by omega)]
  rw [h15, cf, cf]
  by_cases k3 : c.Kind = 3
  ·rw [eq_t k3, ct, ct, dec_cast (p := (c.More.length : Int) = 3) (q := c.More.length = 3) (by omega)]
   by_cases h : c.More.length = 3
   ·have g0 : getE c.More 0 = some (atL c.More 0) := getE_at0 (i := 0) (by omega)
    have g1 : getE c.More 1 = some (atL c.More 1) := getE_at0 (i := 1) (by omega)
    rw [decide_eq_true h, g0, g1]
    simp only [bs, num_spec, none_spec]
    cases numB (atL c.More 0) 0 9007199254740992 <;> cases noneB (atL c.More 1) 9 <;> rfl
   ·rw [decide_eq_false h]; rfl
  rw [eq_f k3, cf, cf]
  by_cases k4 : c.Kind = 4
  ·rw [eq_t k4, ct, ct, dec_cast (p := (1 : Int) ≤ (c.More.length : Int)) (q := 1 ≤ c.More.length) (by omega), dec_cast (p := (c.More.length : Int) ≤ 4097) (q := c.More.length ≤ 4097) (by omega)]
   by_cases h : 1 ≤ c.More.length
   ·have g0 : getE c.More 0 = some (atL c.More 0) := getE_at0 (i := 0) (by omega)
    rw [decide_eq_true h, g0]
    simp only [bs, none_spec]
    cases decide (c.More.length ≤ 4097) <;> cases noneB (atL c.More 0) 9 <;> rfl
   ·rw [decide_eq_false h]; rfl
  rw [eq_f k4, cf, cf]
  by_cases k6 : c.Kind = 6
  ·rw [eq_t k6, ct, ct, dec_cast (p := (c.More.length : Int) = 2) (q := c.More.length = 2) (by omega)]
   by_cases h : c.More.length = 2
   ·have g0 : getE c.More 0 = some (atL c.More 0) := getE_at0 (i := 0) (by omega)
    have g1 : getE c.More 1 = some (atL c.More 1) := getE_at0 (i := 1) (by omega)
    rw [decide_eq_true h, g0, g1]
    simp only [bs, num_spec, none_spec]
    cases numB (atL c.More 0) 0 3 <;> cases noneB (atL c.More 1) 9 <;> rfl
   ·rw [decide_eq_false h]; rfl
  rw [eq_f k6, cf, cf]
  by_cases k7 : c.Kind = 7
  ·rw [eq_t k7, ct, ct, dec_cast (p := (4 : Int) ≤ (c.More.length : Int)) (q := 4 ≤ c.More.length) (by omega)]
   by_cases h : 4 ≤ c.More.length
   ·have g2 : getE c.More 2 = some (atL c.More 2) := getE_at0 (i := 2) (by omega)
    have g3 : getE c.More 3 = some (atL c.More 3) := getE_at0 (i := 3) (by omega)
    rw [decide_eq_true h, g2, g3]
    simp only [bs, num_spec]
    cases numB (atL c.More 2) 0 1 <;> cases numB (atL c.More 3) 0 9007199254740992 <;> rfl
   ·rw [decide_eq_false h]; rfl
  rw [eq_f k7, cf, cf]
  by_cases k8 : c.Kind = 8
  ·rw [eq_t k8, ct, ct, entries2 N hN _ hc, bs]
  rw [eq_f k8, cf, cf]
  by_cases k10 : c.Kind = 10
  ·rw [eq_t k10, ct, ct, dec_cast (p := (1 : Int) ≤ (c.More.length : Int)) (q := 1 ≤ c.More.length) (by omega)]
   by_cases h : 1 ≤ c.More.length
   ·have g0 : getE c.More 0 = some (atL c.More 0) := getE_at0 (i := 0) (by omega)
    have hd : ((c.More.drop ((1 : Int).toNat)).take (c.More.length - (1 : Int).toNat)) = c.More.drop 1 := List.take_of_length_le (by rw [List.length_drop]; exact Nat.le_refl _)
    rw [decide_eq_true h, g0, hd, req_t ⟨by omega, by show 1 ≤ _; omega, Nat.le_refl _⟩, entries4 N hN _ (by rw [List.length_drop]; omega)]
    simp only [bs]
    cases decide ((atL c.More 0).Kind = 7) <;> cases entB4 (c.More.drop 1) <;> rfl
   ·rw [decide_eq_false h]; rfl
  rw [eq_f k10, cf, cf]
  by_cases k9 : c.Kind = 9
  ·rw [eq_t k9, ct, ct, dec_cast (p := (2 : Int) ≤ (c.More.length : Int)) (q := 2 ≤ c.More.length) (by omega)]
   by_cases h : 2 ≤ c.More.length
   ·have g0 : getE c.More 0 = some (atL c.More 0) := getE_at0 (i := 0) (by omega)
    rw [decide_eq_true h, g0]
    simp only [bs, num_spec]
    cases numB (atL c.More 0) 0 2 <;> rfl
   ·rw [decide_eq_false h]; rfl
  rw [eq_f k9, cf, cf]
 unfold r15_more_O
 rw [lt_f (by omega), cf]
 by_cases k2 : c.Kind = 2
 ·rw [eq_t k2, ct]
  unfold moreB
  rw [eq_t k2, ct, dec_cast (p := (c.More.length : Int) ≤ 4096) (q := c.More.length ≤ 4096) (by omega)]
 rw [eq_f k2, cf]
 by_cases k1 : c.Kind = 1
 ·rw [eq_t k1, ct]; exact h6 _ (by rw [eq_t k1]; rfl) k2
 ·rw [eq_f k1, cf]; exact h6 _ (by rw [eq_f k1]; rfl) k2
def rightB (c : DCell) : Bool :=
 (!decide (c.Kind < 1) && !decide (11 < c.Kind) && !decide (c.Shape < 0) && !decide (c.Flags < 0) && !decide (63 < c.Flags) && !decide (c.Age < 0) && !decide (1 < c.Age)) && (c.Slots.all mayB && (c.More.all mayB && (slotsB c.Kind c.Shape c.Flags c.Slots && moreB c.Kind c.More)))
theorem right_spec (N : Nat) (hN : 2000 < N) (c : DCell) (hS : c.Slots.length ≤ 1000) (hc : c.More.length ≤ 1000) : r15_Right_O N c = some (rightB c) := by
 have h19 : r15_Right_j19 N c = some (slotsB c.Kind c.Shape c.Flags c.Slots && moreB c.Kind c.More) := by
  unfold r15_Right_j19
  rw [slots_spec, more_spec N hN c hc, bs]
  cases slotsB c.Kind c.Shape c.Flags c.Slots <;> rfl
 have h20 : r15_Right_l20 N c N 0 = some (c.More.all mayB && (slotsB c.Kind c.Shape c.Flags c.Slots && moreB c.Kind c.More)) := by
  rw [loop_allk (fun k i => r15_Right_l20 N c k i) c.More mayB (some false) (some (slotsB c.Kind c.Shape c.Flags c.Slots && moreB c.Kind c.More)) (fun k i h => ?_) (fun k => ?_) N (by omega)]
  ·cases c.More.all mayB <;> rfl
  ·rw [r15_Right_l20_s, lt_t (by omega), ct, getE_n h, bs, may_spec, bs, r64 (by omega) (by omega)]
   cases mayB c.More[i] <;> rfl
  ·rw [r15_Right_l20_s, lt_f (by omega), cf, h19]
 have h12 : r15_Right_l12 N c N 0 = some (c.Slots.all mayB && (c.More.all mayB && (slotsB c.Kind c.Shape c.Flags c.Slots && moreB c.Kind c.More))) := by
  rw [loop_allk (fun k i => r15_Right_l12 N c k i) c.Slots mayB (some false) (some (c.More.all mayB && (slotsB c.Kind c.Shape c.Flags c.Slots && moreB c.Kind c.More))) (fun k i h => ?_) (fun k => ?_) N (by omega)]
  ·cases c.Slots.all mayB <;> rfl
  ·rw [r15_Right_l12_s, lt_t (by omega), ct, getE_n h, bs, may_spec, bs, r64 (by omega) (by omega)]
   cases mayB c.Slots[i] <;> rfl
  ·rw [r15_Right_l12_s, lt_f (by omega), cf]
   unfold r15_Right_j11
   exact h20
 unfold r15_Right_O rightB
 rw [h12]
 cases decide (c.Kind < 1) <;> cases decide (11 < c.Kind) <;> cases decide (c.Shape < 0) <;> cases decide (c.Flags < 0) <;> cases decide (63 < c.Flags) <;> cases decide (c.Age < 0) <;> cases decide (1 < c.Age) <;> rfl
end Go.Proofs.YtmbaennilhdieaaGreat
/- Plain: what a weak map opens, on both sides. -/
namespace Go.Proofs.YtmbaennilhdieaaGreat
open Go.RowKit
theorem index_spec (N : Nat) (x : Int) (l : List Int) (hl : l.length ≤ 5000) : ∀ (m i : Nat), l.length < m + i → i ≤ l.length → Sat (slices_Index_l3 N x l m (i : Int)) fun r => decide (0 ≤ r) = decide (x ∈ l.drop i)
 | 0, i, h, h2 => by omega
 | m + 1, i, h, h2 => by
  rw [slices_Index_l3_s]
  by_cases hi : i < l.length
  ·rw [lt_t (by omega), ct, getE_n hi, bs, List.drop_eq_getElem_cons hi]
   refine sat_dec (fun e => ?_) fun e => ?_
   ·exact sat_some (by rw [decide_eq_true (by omega), decide_eq_true]; rw [e]; exact List.mem_cons_self ..)
   ·rw [r64 (by omega) (by omega)]
    have := index_spec N x l hl m (i + 1) (by omega) hi
    simp only [Int.natCast_add, Int.cast_ofNat_Int] at this
    refine this.mono fun r hr => ?_
    rw [hr]
    have : (x ∈ l[i] :: l.drop (i + 1)) ↔ x ∈ l.drop (i + 1) := ⟨fun h => (List.mem_cons.1 h).resolve_left (fun e2 => e e2), List.mem_cons_of_mem _⟩
    rw [decide_eq_decide]; exact this.symm
  ·rw [lt_f (by omega), cf, List.drop_eq_nil_of_le (by omega)]
   exact sat_some (by simp)
theorem contains_prog (N : Nat) (hN : 5000 < N) (l : List Int) (hl : l.length ≤ 5000) (x : Int) : slices_Contains_O N l x = some (decide (x ∈ l)) := by
 obtain ⟨r, h1, h2⟩ := index_spec N x l hl N 0 (by omega) (by omega)
 unfold slices_Contains_O slices_Index_O
 rw [show slices_Index_l3 N x l N 0 = some r from h1, bs, h2]
 rfl
theorem in17 (N : Nat) (hN : 5000 < N) (l : List Int) (hl : l.length ≤ 5000) (x : Int) : r17_In_O N x l = some (decide (x ∈ l)) := by
 apply Sat.eq
 unfold r17_In_O
 have key : ∀ (m i : Nat), l.length < m + i → i ≤ l.length → Sat (r17_In_l3 N x l m (i : Int)) (· = decide (x ∈ l.drop i)) := by
  intro m
  induction m with
  | zero => intro i h h2; omega
  | succ m ih =>
   intro i h h2
   rw [r17_In_l3_s]
   by_cases hi : i < l.length
   ·rw [lt_t (by omega), ct, getE_n hi, bs, List.drop_eq_getElem_cons hi]
    refine sat_dec (fun e => ?_) fun e => ?_
    ·exact sat_some (by rw [decide_eq_true]; rw [e]; exact List.mem_cons_self ..)
    ·rw [r64 (by omega) (by omega)]
     have := ih (i + 1) (by omega) hi
     simp only [Int.natCast_add, Int.cast_ofNat_Int] at this
     refine this.mono fun r hr => ?_
     rw [hr]
     have : (x ∈ l[i] :: l.drop (i + 1)) ↔ x ∈ l.drop (i + 1) := ⟨fun h => (List.mem_cons.1 h).resolve_left (fun e2 => e e2.symm), List.mem_cons_of_mem _⟩
     rw [decide_eq_decide]; exact this.symm
   ·rw [lt_f (by omega), cf, List.drop_eq_nil_of_le (by omega)]
    exact sat_some (by simp)
 exact key N 0 (by omega) (by omega)
theorem in19 (N : Nat) (hN : 5000 < N) (l : List Int) (hl : l.length ≤ 5000) (x : Int) : r19_In_O N l x = some (decide (x ∈ l)) := by
 apply Sat.eq
 unfold r19_In_O
 have key : ∀ (m i : Nat), l.length < m + i → i ≤ l.length → Sat (r19_In_l3 N x l m (i : Int)) (· = decide (x ∈ l.drop i)) := by
  intro m
  induction m with
  | zero => intro i h h2; omega
  | succ m ih =>
   intro i h h2
   rw [r19_In_l3_s]
   by_cases hi : i < l.length
   ·rw [lt_t (by omega), ct, getE_n hi, bs, List.drop_eq_getElem_cons hi]
    refine sat_dec (fun e => ?_) fun e => ?_
    ·exact sat_some (by rw [decide_eq_true]; rw [e]; exact List.mem_cons_self ..)
    ·rw [r64 (by omega) (by omega)]
     have := ih (i + 1) (by omega) hi
     simp only [Int.natCast_add, Int.cast_ofNat_Int] at this
     refine this.mono fun r hr => ?_
     rw [hr]
     have : (x ∈ l[i] :: l.drop (i + 1)) ↔ x ∈ l.drop (i + 1) := ⟨fun h => (List.mem_cons.1 h).resolve_left (fun e2 => e e2.symm), List.mem_cons_of_mem _⟩
     rw [decide_eq_decide]; exact this.symm
   ·rw [lt_f (by omega), cf, List.drop_eq_nil_of_le (by omega)]
    exact sat_some (by simp)
 exact key N 0 (by omega) (by omega)
def opens (p : Int → Bool) : List DValue → List Int
 | k :: v :: l => (bif hasB v && p k.N then [v.N] else []) ++ opens p l
 | _ => []
theorem opens_cons (p : Int → Bool) (k v : DValue) (l : List DValue) : opens p (k :: v :: l) = (bif hasB v && p k.N then [v.N] else []) ++ opens p l := rfl
theorem opens_len (p : Int → Bool) : ∀ l : List DValue, (opens p l).length ≤ l.length
 | [] => Nat.le_refl _
 | [_] => Nat.zero_le _
 | k :: v :: l => by
  have := opens_len p l
  rw [opens_cons, List.length_append]
  cases hasB v && p k.N <;> simp <;> omega
theorem opens_mem {p : Int → Bool} {x : Int} : ∀ {l : List DValue}, x ∈ opens p l → ∃ v ∈ l, v.N = x
 | [], h => by cases h
 | [_], h => by cases h
 | k :: v :: l, h => by
  rw [opens_cons, List.mem_append] at h
  rcases h with h | h
  ·cases hb : hasB v && p k.N
   ·rw [hb] at h; cases h
   ·rw [hb] at h; exact ⟨v, by simp, (List.mem_singleton.1 h).symm⟩
  ·obtain ⟨w, h1, h2⟩ := opens_mem h
   exact ⟨w, by simp [h1], h2⟩
theorem opens_congr {p q : Int → Bool} (h : ∀ x, p x = q x) (l : List DValue) : opens p l = opens q l := by rw [show p = q from funext h]
theorem kind_has (v : DValue) : ((bif decide (v.Kind = 7) then (some true) else (some (decide (v.Kind = 9)))) : Option Bool) = some (hasB v) := by unfold hasB; cases decide (v.Kind = 7) <;> rfl
def opensL (N : Nat) (c : DCell) (l : List Int) : List Int := bif isWM N c then opens (fun x => decide (x ∈ l)) c.More else []
theorem opensL_len (N : Nat) (c : DCell) (l : List Int) : (opensL N c l).length ≤ c.More.length := by
 unfold opensL
 cases isWM N c
 ·exact Nat.zero_le _
 ·exact opens_len _ _
theorem opensL_mem {N : Nat} {c : DCell} {l : List Int} {x : Int} (h : x ∈ opensL N c l) : ∃ v ∈ c.Slots ++ c.More, v.N = x := by
 unfold opensL at h
 cases hw : isWM N c
 ·rw [hw] at h; cases h
 ·rw [hw] at h
  obtain ⟨v, h1, h2⟩ := opens_mem h
  exact ⟨v, by simp [h1], h2⟩
theorem opens_body (N : Nat) (hN : 5000 < N) (l : List Int) (hl : l.length ≤ 5000) (k v : DValue) (s : List Int) (hs : s.length ≤ 5000) : liftR (fun x st => weak_Opens_b12 N l x st) (k, v) (none, s) = some (true, (none, s ++ (bif hasB v && decide (k.N ∈ l) then [v.N] else []))) := by
 unfold liftR weak_Opens_b12
 simp only [kind_has, bs, contains_prog N hN l hl]
 cases hasB v
 ·simp only [cf, bs, Bool.false_and, List.append_nil]; rfl
 ·simp only [ct, bs, Bool.true_and]
  cases decide (k.N ∈ l)
  ·simp only [cf, List.append_nil]; rfl
  ·simp only [ct]
   rw [rF (by simp; omega)]
   rfl
theorem entries_prog (N : Nat) (hN : 5000 < N) (l : List Int) (hl : l.length ≤ 5000) (c : DCell) (hc : c.More.length ≤ 1000) (he : c.More.length % 2 = 0) : ∀ (m i : Nat) (s : List Int), c.More.length < m + i → i ≤ c.More.length → i % 2 = 0 → s.length ≤ i → weak_entries_c1_l4 N (liftR (fun x st => weak_Opens_b12 N l x st)) c m (i : Int) (none, s) = some (none, s ++ opens (fun x => decide (x ∈ l)) (c.More.drop i))
 | 0, i, s, h, h2, _, _ => by omega
 | m + 1, i, s, h, h2, h3, h4 => by
  rw [weak_entries_c1_l4_s, r64 (a := (i : Int) + 1) (by omega) (by omega)]
  by_cases hi : i < c.More.length
  ·have hi1 : i + 1 < c.More.length := by omega
   have hl1 : getE c.More ((i : Int) + 1) = some c.More[i + 1] := by
    have := getE_n hi1
    simpa using this
   rw [lt_t (by omega), ct, getE_n hi, bs, r64 (a := (i : Int) + 1) (by omega) (by omega), hl1, bs, opens_body N hN l hl _ _ s (by omega), bs]
   simp only [nt, cf]
   rw [r64 (by omega) (by omega)]
   have hlen : (s ++ (bif hasB c.More[i + 1] && decide (c.More[i].N ∈ l) then [c.More[i + 1].N] else [])).length ≤ i + 2 := by
    cases hasB c.More[i + 1] && decide (c.More[i].N ∈ l) <;> simp <;> omega
   have := entries_prog N hN l hl c hc he m (i + 2) _ (by omega) (by omega) (by omega) hlen
   simp only [Int.natCast_add, Int.cast_ofNat_Int] at this
   rw [this, List.drop_eq_getElem_cons hi, List.drop_eq_getElem_cons hi1, opens_cons, List.append_assoc]
  ·rw [lt_f (by omega), cf, List.drop_eq_nil_of_le (by omega)]
   simp [opens]
theorem opens_prog (N : Nat) (hN : 5000 < N) (l : List Int) (hl : l.length ≤ 5000) (c : DCell) (hS : c.Slots.length ≤ 1000) (hc : c.More.length ≤ 1000) : weak_Opens_O N c l = some (opensL N c l) := by
 obtain ⟨-, h1, h2⟩ := is_ref N (by omega) c hS hc
 unfold weak_Opens_O opensL weak_entries_c1_O
 rw [h1, bs]
 cases hw : isWM N c
 ·rfl
 ·have e : weak_entries_O N c = some () := rfl
  have := entries_prog N hN l hl c hc (h2 hw) N 0 [] (by omega) (by omega) rfl (by simp)
  simp only [nt, cf, ct, e, bs]
  have h3 : weak_entries_c1_l4 N (liftR (fun x st => weak_Opens_b12 N l x st)) c N 0 (none, []) = some (none, [] ++ opens (fun x => decide (x ∈ l)) (c.More.drop 0)) := this
  rw [h3, bs]
  rfl
theorem opens_ref (N : Nat) (hN : 5000 < N) (l : List Int) (hl : l.length ≤ 5000) (c : DCell) (hS : c.Slots.length ≤ 1000) (hc : c.More.length ≤ 1000) : r17_Opens_O N c l = some (opensL N c l) := by
 obtain ⟨h1, -, h2⟩ := is_ref N (by omega) c hS hc
 unfold r17_Opens_O opensL
 cases hw : isWM N c
 ·obtain ⟨n, rfl⟩ : ∃ n, N = n + 1 := ⟨N - 1, by omega⟩
  rw [r17_Opens_l7_s, h1, bs, hw]
  simp only [cf, bs]
  rfl
 ·have he := h2 hw
  have key : ∀ (m i : Nat) (s : List Int), c.More.length < m + i → i ≤ c.More.length → i % 2 = 0 → s.length ≤ i → r17_Opens_l7 N l c m s (i : Int) = some (s ++ opens (fun x => decide (x ∈ l)) (c.More.drop i)) := by
   intro m
   induction m with
   | zero => intro i s h h2; omega
   | succ m ih =>
    intro i s h h2 h3 h4
    rw [r17_Opens_l7_s, h1, bs, hw, ct, bs]
    by_cases hi : i < c.More.length
    ·have hi1 : i + 1 < c.More.length := by omega
     have hl1 : getE c.More ((i : Int) + 1) = some c.More[i + 1] := by
      have := getE_n hi1
      simpa using this
     rw [lt_t (by omega), ct, r64 (a := (i : Int) + 1) (by omega) (by omega), hl1, bs, getE_n hi, bs, in17 N hN l hl, bs]
     simp only [kind_has, bs]
     have hlen : (s ++ (bif hasB c.More[i + 1] && decide (c.More[i].N ∈ l) then [c.More[i + 1].N] else [])).length ≤ i + 2 := by
      cases hasB c.More[i + 1] && decide (c.More[i].N ∈ l) <;> simp <;> omega
     have := ih (i + 2) _ (by omega) (by omega) (by omega) hlen
     simp only [Int.natCast_add, Int.cast_ofNat_Int] at this
     rw [List.drop_eq_getElem_cons hi, List.drop_eq_getElem_cons hi1, opens_cons, ← List.append_assoc, ← this]
     unfold r17_Opens_j14
     rw [r64 (a := (i : Int) + 2) (by omega) (by omega), r64 (a := (i : Int) + 2) (by omega) (by omega)]
     cases decide (c.More[i].N ∈ l)
     ·simp only [cf, bs, Bool.and_false, List.append_nil]
     ·cases hasB c.More[i + 1]
      ·simp only [ct, cf, bs, Bool.and_true, List.append_nil]
      ·simp only [ct, bs, Bool.and_true]
       rw [rF (by simp; omega)]
    ·rw [lt_f (by omega), cf, List.drop_eq_nil_of_le (by omega)]
     simp [opens, r17_Opens_j5]
  have := key N 0 [] (by omega) (by omega) rfl (by simp)
  simpa using this
end Go.Proofs.YtmbaennilhdieaaGreat
/- Plain: the traversal. -/
namespace Go.Proofs.YtmbaennilhdieaaGreat
open Go.RowKit
theorem nodup_le : ∀ (b : Nat) {l : List Int}, l.Nodup → (∀ x ∈ l, 1 ≤ x ∧ x ≤ (b : Int)) → l.length ≤ b
 | 0, l, _, h => by
  cases l with
  | nil => exact Nat.le_refl _
  | cons x l => have := h x (by simp); omega
 | b + 1, l, hn, h => by
  have h1 := nodup_le b (hn.erase ((b : Int) + 1)) fun x hx => by
   obtain ⟨h2, h3⟩ := hn.mem_erase_iff.1 hx
   have := h x h3
   omega
  have h2 := List.length_erase (a := (b : Int) + 1) (l := l)
  split at h2 <;> omega
theorem lk_mem (kv : List (Int × Unit)) (a : Int) : (lk kv a).isSome = decide (a ∈ kv.map (·.1)) := by
 unfold lk
 rw [Bool.eq_iff_iff]
 simp [List.find?_isSome, List.mem_map]
def W64 (m : DMemory) : Prop := ∀ c ∈ m.Young ++ m.Old, ∀ v ∈ c.Slots ++ c.More, in64 v.N
theorem W64.at_ {m : DMemory} (h : W64 m) (a : Int) : ∀ v ∈ (atM m a).Slots ++ (atM m a).More, in64 v.N := by
 unfold atM
 cases hc : cellAt m a with
 | none => intro v hv; simp [zeroC] at hv
 | some c => exact h c (cellAt_mem hc)
structure Tr (m : DMemory) (all : List Int) (met : List (Int × Unit)) : Prop where
 nd : all.Nodup
 mem : ∀ x, x ∈ met.map (·.1) ↔ x ∈ all
 has : ∀ x ∈ all, hasM m x = true
theorem Tr.len {m : DMemory} {roots : List DValue} (hs : Small m roots) {all : List Int} {met : List (Int × Unit)} (h : Tr m all met) : all.length ≤ 1200 := nodup_le 1200 h.nd fun x hx => ⟨by have := hasM_pos (h.has x hx); omega, by have := hasM_le hs (h.has x hx); omega⟩
theorem Tr.in64 {m : DMemory} {roots : List DValue} (hs : Small m roots) {all : List Int} {met : List (Int × Unit)} (h : Tr m all met) {x : Int} (hx : x ∈ all) : in64 x := by
 have h1 := hasM_pos (h.has x hx)
 have h2 := hasM_le hs (h.has x hx)
 unfold Go.Proofs.YtmbaennilhdieaaGreat.in64; omega
theorem Tr.add {m : DMemory} {all : List Int} {met : List (Int × Unit)} (h : Tr m all met) {x : Int} (hx : x ∉ all) (hh : hasM m x = true) : Tr m (all ++ [x]) (upL met x ()) := ⟨List.nodup_append.2 ⟨h.nd, by simp, fun a ha b hb e => by rw [List.mem_singleton] at hb; subst hb; subst e; exact hx ha⟩, fun y => by
 rw [upL_mem, List.mem_append, List.mem_singleton, h.mem y]; exact Or.comm, fun y hy => by
 rcases List.mem_append.1 hy with hy | hy
 ·exact h.has y hy
 ·rw [List.mem_singleton] at hy; subst hy; exact hh⟩
def Clo (m : DMemory) (all : List Int) (k : Nat) : Prop := ∀ (i : Nat) (a x : Int), i < k → all[i]? = some a → x ∈ leadsL (atM m a) → hasM m x = true → x ∈ all
theorem leads_ok {m : DMemory} {roots : List DValue} (hs : Small m roots) (hw : W64 m) (a : Int) : (leadsL (atM m a)).length ≤ 2000 ∧ ∀ x ∈ leadsL (atM m a), in64 x := by
 have h1 := hs.at_ a
 have h2 := leadsL_len (atM m a)
 refine ⟨by omega, fun x hx => ?_⟩
 obtain ⟨v, h3, rfl⟩ := leadsL_mem hx
 exact hw.at_ a v h3
end Go.Proofs.YtmbaennilhdieaaGreat
/- Plain: traversals of a graph with weak maps, as relations. No program in sight. -/
namespace Go.Proofs.YtmbaennilhdieaaGreat
open Go.RowKit
structure Gr where
 has : Int → Bool
 leads : Int → List Int
 opens : List Int → Int → List Int
def layL (has : Int → Bool) : List Int → List Int → List Int
 | row, [] => row
 | row, x :: l => layL has (bif has x && !decide (x ∈ row) then row ++ [x] else row) l
inductive Thr (g : Gr) : List Int → Nat → List Int → Prop
 | done {row : List Int} {k : Nat} : row.length ≤ k → Thr g row k row
 | step {row : List Int} {k : Nat} {a : Int} {r : List Int} : row[k]? = some a → Thr g (layL g.has row (g.leads a)) (k + 1) r → Thr g row k r
def passL (g : Gr) : List Int → List Int → List Int
 | row, [] => row
 | row, a :: avs => passL g (layL g.has row (g.opens row a)) avs
inductive Ord (g : Gr) : List Int → List Int → Prop
 | done {row : List Int} : passL g row row = row → Ord g row row
 | step {row r1 r : List Int} : passL g row row ≠ row → Thr g (passL g row row) row.length r1 → Ord g r1 r → Ord g row r
structure IsOrder (g : Gr) (roots : List Int) (b l : List Int) : Prop where
 strong : Thr g (layL g.has [] roots) 0 b
 all : Ord g b l
theorem layL_app (has : Int → Bool) : ∀ (row l : List Int), ∃ t, layL has row l = row ++ t ∧ (∀ x ∈ t, has x = true ∧ x ∈ l)
 | row, [] => ⟨[], by simp [layL], by simp⟩
 | row, x :: l => by
  unfold layL
  cases h : has x && !decide (x ∈ row) with
  | false =>
   obtain ⟨t, h1, h2⟩ := layL_app has row l
   exact ⟨t, h1, fun y hy => ⟨(h2 y hy).1, by simp [(h2 y hy).2]⟩⟩
  | true =>
   obtain ⟨t, h1, h2⟩ := layL_app has (row ++ [x]) l
   refine ⟨x :: t, by rw [cond_true, h1]; simp, fun y hy => ?_⟩
   rw [Bool.and_eq_true] at h
   rcases List.mem_cons.1 hy with e | hy
   ·subst e; exact ⟨h.1, by simp⟩
   ·exact ⟨(h2 y hy).1, by simp [(h2 y hy).2]⟩
theorem layL_two (has : Int → Bool) : ∀ (row l l' : List Int), layL has row (l ++ l') = layL has (layL has row l) l'
 | _, [], _ => rfl
 | row, x :: l, l' => by
  show layL has _ (l ++ l') = _
  rw [layL_two has _ l l']; rfl
theorem layL_nodup {has : Int → Bool} : ∀ {row : List Int} (l : List Int), row.Nodup → (layL has row l).Nodup
 | _, [], h => h
 | row, x :: l, h => by
  unfold layL
  cases h2 : has x && !decide (x ∈ row) with
  | false => exact layL_nodup l h
  | true =>
   rw [Bool.and_eq_true] at h2
   have hx : x ∉ row := by simpa using h2.2
   exact layL_nodup l (List.nodup_append.2 ⟨h, by simp, fun a ha b hb e => by rw [List.mem_singleton] at hb; subst hb; subst e; exact hx ha⟩)
theorem layL_mem {has : Int → Bool} : ∀ (row l : List Int) {x : Int}, x ∈ l → has x = true → x ∈ layL has row l
 | row, y :: l, x, h, hx => by
  unfold layL
  rcases List.mem_cons.1 h with e | h
  ·subst e
   obtain ⟨t, h1, -⟩ := layL_app has (bif has x && !decide (x ∈ row) then row ++ [x] else row) l
   rw [h1]
   refine List.mem_append_left _ ?_
   rw [hx, Bool.true_and]
   by_cases hm : x ∈ row <;> simp [hm]
  ·exact layL_mem _ l h hx
theorem layL_new {has : Int → Bool} {row l : List Int} {x : Int} (h : x ∈ layL has row l) : x ∈ row ∨ (has x = true ∧ x ∈ l) := by
 obtain ⟨t, h1, h2⟩ := layL_app has row l
 rw [h1] at h
 rcases List.mem_append.1 h with h | h
 ·exact .inl h
 ·exact .inr (h2 x h)
theorem passL_app (g : Gr) : ∀ (row avs : List Int), ∃ t, passL g row avs = row ++ t
 | row, [] => ⟨[], by simp [passL]⟩
 | row, a :: avs => by
  obtain ⟨t, h1, -⟩ := layL_app g.has row (g.opens row a)
  obtain ⟨t2, h2⟩ := passL_app g (layL g.has row (g.opens row a)) avs
  exact ⟨t ++ t2, by unfold passL; rw [h2, h1, List.append_assoc]⟩
theorem passL_two (g : Gr) : ∀ (row avs bs : List Int), passL g row (avs ++ bs) = passL g (passL g row avs) bs
 | _, [], _ => rfl
 | row, a :: avs, bs => by
  show passL g _ (avs ++ bs) = _
  rw [passL_two g _ avs bs]; rfl
theorem passL_nodup {g : Gr} : ∀ {row : List Int} (avs : List Int), row.Nodup → (passL g row avs).Nodup
 | _, [], h => h
 | _, _ :: avs, h => passL_nodup avs (layL_nodup _ h)
theorem passL_has {g : Gr} : ∀ {row : List Int} (avs : List Int), (∀ x ∈ row, g.has x = true) → ∀ x ∈ passL g row avs, g.has x = true
 | _, [], h => h
 | _, _ :: avs, h => passL_has avs fun x hx => (layL_new hx).elim (h x) (·.1)
theorem Thr.app {g : Gr} {row r : List Int} {k : Nat} (h : Thr g row k r) : ∃ t, r = row ++ t := by
 induction h with
 | done _ => exact ⟨[], by simp⟩
 | step _ _ ih =>
  rename_i row _ a _ _ _
  obtain ⟨t, rfl⟩ := ih
  obtain ⟨t2, h1, -⟩ := layL_app g.has row (g.leads a)
  exact ⟨t2 ++ t, by rw [h1, List.append_assoc]⟩
theorem Thr.nodup {g : Gr} {row r : List Int} {k : Nat} (h : Thr g row k r) (hn : row.Nodup) : r.Nodup := by
 induction h with
 | done _ => exact hn
 | step _ _ ih => exact ih (layL_nodup _ hn)
theorem Thr.has {g : Gr} {row r : List Int} {k : Nat} (h : Thr g row k r) (hn : ∀ x ∈ row, g.has x = true) : ∀ x ∈ r, g.has x = true := by
 induction h with
 | done _ => exact hn
 | step _ _ ih => exact ih fun x hx => (layL_new hx).elim (hn x) (·.1)
theorem Thr.det {g : Gr} {row r r' : List Int} {k : Nat} (h : Thr g row k r) (h' : Thr g row k r') : r = r' := by
 induction h with
 | done hk =>
  cases h' with
  | done _ => rfl
  | step ha _ => rw [List.getElem?_eq_none hk] at ha; cases ha
 | step ha _ ih =>
  cases h' with
  | done hk => rw [List.getElem?_eq_none hk] at ha; cases ha
  | step ha' h2 => rw [ha] at ha'; cases ha'; exact ih h2
theorem Ord.det {g : Gr} {row r r' : List Int} (h : Ord g row r) (h' : Ord g row r') : r = r' := by
 induction h with
 | done hk =>
  cases h' with
  | done _ => rfl
  | step ha _ _ => exact absurd hk ha
 | step ha h1 _ ih =>
  cases h' with
  | done hk => exact absurd hk ha
  | step _ h1' h2 => exact ih (h1.det h1' ▸ h2)
theorem IsOrder.det {g : Gr} {roots b l b' l' : List Int} (h : IsOrder g roots b l) (h' : IsOrder g roots b' l') : b = b' ∧ l = l' := by
 obtain ⟨h1, h2⟩ := h
 obtain ⟨h3, h4⟩ := h'
 have e := h1.det h3
 subst e
 exact ⟨rfl, h2.det h4⟩
theorem Ord.app {g : Gr} {row r : List Int} (h : Ord g row r) : ∃ t, r = row ++ t := by
 induction h with
 | done _ => exact ⟨[], by simp⟩
 | step _ h1 _ ih =>
  rename_i row r1 _ _ _
  obtain ⟨t, rfl⟩ := ih
  obtain ⟨t1, rfl⟩ := h1.app
  obtain ⟨t2, h2⟩ := passL_app g row row
  exact ⟨t2 ++ t1 ++ t, by rw [h2]; simp [List.append_assoc]⟩
theorem Ord.nodup {g : Gr} {row r : List Int} (h : Ord g row r) (hn : row.Nodup) : r.Nodup := by
 induction h with
 | done _ => exact hn
 | step _ h1 _ ih => exact ih (h1.nodup (passL_nodup _ hn))
theorem Ord.has {g : Gr} {row r : List Int} (h : Ord g row r) (hn : ∀ x ∈ row, g.has x = true) : ∀ x ∈ r, g.has x = true := by
 induction h with
 | done _ => exact hn
 | step _ h1 _ ih => exact ih (h1.has (passL_has _ hn))
theorem IsOrder.nodup {g : Gr} {roots b l : List Int} (h : IsOrder g roots b l) : b.Nodup ∧ l.Nodup :=
 have hb := h.strong.nodup (layL_nodup _ List.nodup_nil)
 ⟨hb, h.all.nodup hb⟩
theorem IsOrder.has {g : Gr} {roots b l : List Int} (h : IsOrder g roots b l) : (∀ x ∈ b, g.has x = true) ∧ ∀ x ∈ l, g.has x = true :=
 have hb := h.strong.has fun x hx => (layL_new hx).elim (fun h => by cases h) (·.1)
 ⟨hb, h.all.has hb⟩
theorem IsOrder.sub {g : Gr} {roots b l : List Int} (h : IsOrder g roots b l) {x : Int} (hx : x ∈ b) : x ∈ l := by
 obtain ⟨t, e⟩ := h.all.app
 rw [e]; exact List.mem_append_left _ hx
theorem IsOrder.roots {g : Gr} {roots b l : List Int} (h : IsOrder g roots b l) {x : Int} (hx : x ∈ roots) (hh : g.has x = true) : x ∈ b := by
 obtain ⟨t, e⟩ := h.strong.app
 rw [e]; exact List.mem_append_left _ (layL_mem _ _ hx hh)
def CloG (g : Gr) (row : List Int) (k : Nat) : Prop := ∀ (i : Nat) (a x : Int), i < k → row[i]? = some a → x ∈ g.leads a → g.has x = true → x ∈ row
theorem CloG.app {g : Gr} {row t : List Int} {k : Nat} (hk : k ≤ row.length) (h : CloG g row k) : CloG g (row ++ t) k := fun i a x hi ha hx hh => by
 rw [List.getElem?_append_left (by omega)] at ha
 exact List.mem_append_left _ (h i a x hi ha hx hh)
theorem Thr.clo {g : Gr} {row r : List Int} {k : Nat} (h : Thr g row k r) (hk : k ≤ row.length) (hc : CloG g row k) : CloG g r r.length := by
 induction h with
 | done hk2 => intro i a x hi ha hx hh; exact hc i a x (by omega) ha hx hh
 | step ha _ ih =>
  rename_i row k a _ _
  have hlt := (List.getElem?_eq_some_iff.1 ha).1
  obtain ⟨t, h1, -⟩ := layL_app g.has row (g.leads a)
  refine ih (by rw [h1, List.length_append]; omega) fun i b x hi hb hx hh => ?_
  by_cases e : i = k
  ·subst e
   rw [h1, List.getElem?_append_left hlt, ha] at hb
   cases hb
   exact layL_mem _ _ hx hh
  ·rw [h1] at hb ⊢
   exact (CloG.app hk hc (t := t)) i b x (by omega) hb hx hh
theorem passL_fix {g : Gr} : ∀ {row avs : List Int}, passL g row avs = row → ∀ a ∈ avs, ∀ x ∈ g.opens row a, g.has x = true → x ∈ row
 | row, b :: avs, h, a, ha, x, hx, hh => by
  have h1 : layL g.has row (g.opens row b) = row := by
   obtain ⟨t, e1, -⟩ := layL_app g.has row (g.opens row b)
   obtain ⟨t2, e2⟩ := passL_app g (layL g.has row (g.opens row b)) avs
   have h3 : row ++ t ++ t2 = row := by rw [← e1, ← e2]; exact h
   have h4 := congrArg List.length h3
   simp only [List.length_append] at h4
   have h5 : t = [] := List.eq_nil_of_length_eq_zero (by omega)
   rw [e1, h5, List.append_nil]
  rcases List.mem_cons.1 ha with e | ha
  ·subst e; have := layL_mem row _ hx hh; rwa [h1] at this
  ·refine passL_fix (avs := avs) ?_ a ha x hx hh
   unfold passL at h; rw [h1] at h; exact h
theorem Ord.closed {g : Gr} {row r : List Int} (h : Ord g row r) (hc : CloG g row row.length) : CloG g r r.length ∧ ∀ a ∈ r, ∀ x ∈ g.opens r a, g.has x = true → x ∈ r := by
 induction h with
 | done hp => exact ⟨hc, passL_fix hp⟩
 | step _ h1 _ ih =>
  rename_i row _ _ _ _
  obtain ⟨t, e⟩ := passL_app g row row
  refine ih (h1.clo (by rw [e, List.length_append]; omega) ?_)
  rw [e]; exact hc.app (Nat.le_refl _)
theorem IsOrder.closed {g : Gr} {roots b l : List Int} (h : IsOrder g roots b l) : (∀ a ∈ l, ∀ x ∈ g.leads a, g.has x = true → x ∈ l) ∧ ∀ a ∈ l, ∀ x ∈ g.opens l a, g.has x = true → x ∈ l := by
 obtain ⟨h1, h2⟩ := h.all.closed (h.strong.clo (Nat.zero_le _) fun i _ _ hi => absurd hi (by omega))
 refine ⟨fun a ha x hx hh => ?_, h2⟩
 obtain ⟨i, hi, e⟩ := List.getElem_of_mem ha
 exact h1 i a x hi (by rw [List.getElem?_eq_getElem hi, e]) hx hh
structure ClosedS (g : Gr) (S : Int → Prop) : Prop where
 leads : ∀ a, S a → ∀ x ∈ g.leads a, g.has x = true → S x
 opens : ∀ row : List Int, (∀ x ∈ row, S x) → ∀ a, S a → ∀ x ∈ g.opens row a, g.has x = true → S x
theorem layL_in {has : Int → Bool} {S : Int → Prop} {row l : List Int} (h1 : ∀ x ∈ row, S x) (h2 : ∀ x ∈ l, has x = true → S x) : ∀ x ∈ layL has row l, S x := fun x hx => (layL_new hx).elim (h1 x) fun ⟨h3, h4⟩ => h2 x h4 h3
theorem Thr.in_ {g : Gr} {S : Int → Prop} (hS : ClosedS g S) {row r : List Int} {k : Nat} (h : Thr g row k r) (hr : ∀ x ∈ row, S x) : ∀ x ∈ r, S x := by
 induction h with
 | done _ => exact hr
 | step ha _ ih => exact ih (layL_in hr (hS.leads _ (hr _ (List.mem_of_getElem? ha))))
theorem passL_in {g : Gr} {S : Int → Prop} (hS : ClosedS g S) : ∀ {row avs : List Int}, (∀ x ∈ row, S x) → (∀ x ∈ avs, S x) → ∀ x ∈ passL g row avs, S x
 | _, [], h, _ => h
 | row, a :: avs, h, h2 => passL_in hS (row := layL g.has row (g.opens row a)) (layL_in h (hS.opens _ h a (h2 a (by simp)))) fun x hx => h2 x (by simp [hx])
theorem Ord.in_ {g : Gr} {S : Int → Prop} (hS : ClosedS g S) {row r : List Int} (h : Ord g row r) (hr : ∀ x ∈ row, S x) : ∀ x ∈ r, S x := by
 induction h with
 | done _ => exact hr
 | step _ h1 _ ih => exact ih (h1.in_ hS (passL_in hS hr hr))
theorem IsOrder.in_ {g : Gr} {S : Int → Prop} (hS : ClosedS g S) {roots b l : List Int} (h : IsOrder g roots b l) (hr : ∀ x ∈ roots, g.has x = true → S x) : ∀ x ∈ l, S x :=
 h.all.in_ hS (h.strong.in_ hS (layL_in (fun _ h => by cases h) hr))
end Go.Proofs.YtmbaennilhdieaaGreat
/- Plain: the program's traversal is the one of the relation. -/
namespace Go.Proofs.YtmbaennilhdieaaGreat
open Go.RowKit
def grM (N : Nat) (m : DMemory) : Gr := ⟨hasM m, fun a => leadsL (atM m a), fun row a => opensL N (atM m a) row⟩
def addrL (l : List DValue) : List Int := (l.filter hasB).map (·.N)
theorem addrL_app (l l' : List DValue) : addrL (l ++ l') = addrL l ++ addrL l' := by unfold addrL; simp
theorem addrL_mem {l : List DValue} {x : Int} : x ∈ addrL l ↔ ∃ v ∈ l, hasB v = true ∧ v.N = x := by
 unfold addrL; simp only [List.mem_map, List.mem_filter]
 constructor
 ·rintro ⟨v, ⟨h1, h2⟩, h3⟩; exact ⟨v, h1, h2, h3⟩
 ·rintro ⟨v, h1, h2, h3⟩; exact ⟨v, ⟨h1, h2⟩, h3⟩
theorem lay_fun (N : Nat) {m : DMemory} {roots : List DValue} (hN : 5000 < N) (hs : Small m roots) (d : Int) (l : List Int) (hl : l.length ≤ 2000) (h64 : ∀ x ∈ l, in64 x) {all : List Int} {met : List (Int × Unit)} (ht : Tr m all met) :
  Sat (reach_row_lay_O N ⟨m, all, met, d⟩ l) fun r => r.m_ = m ∧ r.done_ = d ∧ Tr m r.all_ r.met_ ∧ r.all_ = layL (hasM m) all l := by
 unfold reach_row_lay_O
 refine loop_inv (fun k i (s : List Int × List (Int × Unit)) => reach_row_lay_l7 N l ⟨m, all, met, d⟩ k (i : Int) s.1 s.2) l.length (fun i s => Tr m s.1 s.2 ∧ s.1 = layL (hasM m) all (l.take i)) _ ?_ ?_ N 0 (all, met) (by omega) (by omega) ⟨ht, rfl⟩
 ·rintro k i ⟨al, mt⟩ hi ⟨h1, h2⟩ go
  show Sat (reach_row_lay_l7 N l ⟨m, all, met, d⟩ (k + 1) i al mt) _
  simp only at h1 h2
  have hx64 := h64 l[i] (List.getElem_mem _)
  have hnext : layL (hasM m) all (l.take (i + 1)) = (bif hasM m l[i] && !decide (l[i] ∈ al) then al ++ [l[i]] else al) := by
   rw [take_succ_get hi, layL_two, ← h2]; rfl
  rw [reach_row_lay_l7_s, lt_t (by omega), ct, getE_n hi, bs, lk_mem]
  unfold reach_row_lay_j12
  rw [r64 (a := (i : Int) + 1) (by omega) (by omega), r64 (a := (i : Int) + 1) (by omega) (by omega)]
  by_cases hm : l[i] ∈ al
  ·rw [decide_eq_true ((h1.mem _).2 hm)]
   simp only [nt, cf, bs]
   exact go (al, mt) ⟨h1, by rw [hnext, decide_eq_true hm]; simp⟩
  ·rw [decide_eq_false (fun h => hm ((h1.mem _).1 h))]
   simp only [nf, ct, bs, has_prog N m _ hx64]
   cases hh : hasM m l[i]
   ·simp only [cf]
    exact go (al, mt) ⟨h1, by rw [hnext, hh]; rfl⟩
   ·simp only [ct]
    have hlen := h1.len hs
    rw [rF (by simp; omega)]
    exact go (al ++ [l[i]], upL mt l[i] ()) ⟨h1.add hm hh, by rw [hnext, hh, decide_eq_false hm]; rfl⟩
 ·rintro k ⟨al, mt⟩ ⟨h1, h2⟩
  show Sat (reach_row_lay_l7 N l ⟨m, all, met, d⟩ (k + 1) _ al mt) _
  rw [reach_row_lay_l7_s, lt_f (by omega), cf]
  exact sat_some ⟨rfl, rfl, h1, by simpa using h2⟩
theorem through_fun (N : Nat) (hN : 5000 < N) {m : DMemory} {roots : List DValue} (hs : Small m roots) (hw : W64 m) {all : List Int} {met : List (Int × Unit)} (ht : Tr m all met) (k : Nat) (hk : k ≤ all.length) :
  Sat (reach_row_through_O N ⟨m, all, met, (k : Int)⟩) fun r => r.m_ = m ∧ r.done_ = (r.all_.length : Int) ∧ Tr m r.all_ r.met_ ∧ Thr (grM N m) all k r.all_ := by
 unfold reach_row_through_O
 refine loop_dec (fun f (s : List Int × List (Int × Unit) × Nat) => reach_row_through_l6 N f m.Young m.Old s.1 s.2.1 (s.2.2 : Int)) (fun s => 1300 - s.2.2) (fun s => Tr m s.1 s.2.1 ∧ s.2.2 ≤ s.1.length ∧ ∀ r, Thr (grM N m) s.1 s.2.2 r → Thr (grM N m) all k r) _ ?_ N (all, met, k) (by show 1300 - k < N; omega) ⟨ht, hk, fun _ h => h⟩
 rintro f ⟨al, mt, j⟩ ⟨h1, h3, h4⟩ go
 show Sat (reach_row_through_l6 N (f + 1) m.Young m.Old al mt (j : Int)) _
 simp only at h1 h3 h4
 have hlen := h1.len hs
 rw [reach_row_through_l6_s]
 by_cases hj : j < al.length
 ·have hx := List.getElem_mem hj
  have hat := at_prog N hs al[j] (h1.in64 hs hx)
  have hsm := hs.at_ al[j]
  obtain ⟨hl1, hl2⟩ := leads_ok hs hw al[j]
  rw [lt_t (by omega), ct, getE_n hj, bs]
  have hat' : reach_At_O N ⟨m.Young, m.Old⟩ al[j] = some (atM m al[j]) := hat
  rw [hat', bs, leads_prog N (by omega) _ (by omega) (by omega), bs]
  refine Sat.bind (lay_fun N hN hs (j : Int) _ hl1 hl2 h1) ?_
  rintro ⟨m', al', mt', d'⟩ ⟨e1, e2, h5, h6⟩
  simp only at e1 e2 h5 h6
  subst e1 e2
  have hlen' := h5.len hs
  dsimp only
  rw [r64 (by omega) (by omega)]
  have hge : al.length ≤ al'.length := by
   obtain ⟨t, e, -⟩ := layL_app (hasM m') al (leadsL (atM m' al[j]))
   rw [h6, e, List.length_append]; omega
  have hgo := go (al', mt', j + 1) (by show 1300 - (j + 1) < 1300 - j; omega) ⟨h5, by show j + 1 ≤ al'.length; omega, fun r hr => h4 r (.step (List.getElem?_eq_getElem hj) (by rw [h6] at hr; exact hr))⟩
  simpa using hgo
 ·have : j = al.length := by omega
  subst this
  rw [lt_f (by omega), cf]
  exact sat_some ⟨rfl, rfl, h1, h4 _ (.done (Nat.le_refl _))⟩
theorem begin_fun (N : Nat) (hN : 5000 < N) {m : DMemory} {roots : List DValue} (hs : Small m roots) (hw : W64 m) (hr : ∀ v ∈ roots, in64 v.N) :
  Sat (reach_begin_O N m roots) fun r => r.m_ = m ∧ r.done_ = (r.all_.length : Int) ∧ Tr m r.all_ r.met_ ∧ Thr (grM N m) (layL (hasM m) [] (addrL roots)) 0 r.all_ := by
 have hrl := hs.roots
 unfold reach_begin_O
 refine loop_inv (fun k i (s : List Int × List (Int × Unit)) => reach_begin_l14 N roots k (i : Int) m.Young m.Old s.1 s.2 0) roots.length (fun i s => Tr m s.1 s.2 ∧ s.1 = layL (hasM m) [] (addrL (roots.take i))) _ ?_ ?_ N 0 ([], []) (by omega) (by omega) ⟨⟨by simp, by simp, by simp⟩, rfl⟩
 ·rintro k i ⟨al, mt⟩ hi ⟨h1, h2⟩ go
  show Sat (reach_begin_l14 N roots (k + 1) (i : Int) m.Young m.Old al mt 0) _
  simp only at h1 h2
  have hx64 := hr roots[i] (List.getElem_mem _)
  have ha : reach_address_O N roots[i] = some (roots[i].N, hasB roots[i]) := by
   unfold reach_address_O; rw [kind_has, bs]
  have hnext : layL (hasM m) [] (addrL (roots.take (i + 1))) = layL (hasM m) al (addrL [roots[i]]) := by
   rw [take_succ_get hi, addrL_app, layL_two, ← h2]
  rw [reach_begin_l14_s, lt_t (by omega), ct, getE_n hi, bs]
  unfold reach_begin_c1_O
  rw [ha, bs]
  cases hb : hasB roots[i]
  ·simp only [cf, bs]
   rw [r64 (by omega) (by omega)]
   refine go (al, mt) ⟨h1, ?_⟩
   rw [hnext]; simp [addrL, hb, layL]
  ·simp only [ct]
   obtain ⟨⟨m', al', mt', d'⟩, e0, e1, e2, h5, h6⟩ := lay_fun N hN hs 0 [roots[i].N] (by simp) (by intro x hx; rw [List.mem_singleton] at hx; subst hx; exact hx64) h1
   simp only at e1 e2 h5 h6
   subst e1 e2
   have e0' : reach_row_lay_O N ⟨⟨m'.Young, m'.Old⟩, al, mt, 0⟩ [roots[i].N] = some ⟨m', al', mt', 0⟩ := e0
   rw [e0', bs, bs]
   dsimp only
   rw [r64 (by omega) (by omega)]
   refine go (al', mt') ⟨h5, ?_⟩
   show al' = _
   rw [hnext, h6]; simp [addrL, hb]
 ·rintro k ⟨al, mt⟩ ⟨h1, h2⟩
  show Sat (reach_begin_l14 N roots (k + 1) _ m.Young m.Old al mt 0) _
  rw [reach_begin_l14_s, lt_f (by omega), cf]
  unfold reach_begin_j8
  refine Sat.bind (through_fun N hN hs hw h1 0 (Nat.zero_le _)) ?_
  rintro r ⟨e1, e2, h5, h6⟩
  simp only [List.take_length] at h2
  exact sat_some ⟨e1, e2, h5, by rw [← h2]; exact h6⟩
theorem opens_ok (N : Nat) {m : DMemory} {roots : List DValue} (hs : Small m roots) (hw : W64 m) (a : Int) (l : List Int) : (opensL N (atM m a) l).length ≤ 2000 ∧ ∀ x ∈ opensL N (atM m a) l, in64 x := by
 have h1 := hs.at_ a
 have h2 := opensL_len N (atM m a) l
 refine ⟨by omega, fun x hx => ?_⟩
 obtain ⟨v, h3, rfl⟩ := opensL_mem hx
 exact hw.at_ a v h3
theorem pass_fun (N : Nat) (hN : 5000 < N) {m : DMemory} {roots : List DValue} (hs : Small m roots) (hw : W64 m) {all : List Int} {met : List (Int × Unit)} (ht : Tr m all met) (d : Int) :
  Sat (reach_row_pass_O N ⟨m, all, met, d⟩) fun r => r.2.m_ = m ∧ r.2.done_ = d ∧ Tr m r.2.all_ r.2.met_ ∧ r.1 = decide ((all.length : Int) < (r.2.all_.length : Int)) ∧ r.2.all_ = passL (grM N m) all all := by
 have hlen := ht.len hs
 unfold reach_row_pass_O
 refine loop_inv (fun k i (s : List Int × List (Int × Unit)) => reach_row_pass_l13 N ⟨m, all, met, d⟩ k (i : Int) m.Young m.Old s.1 s.2 d) all.length (fun i s => Tr m s.1 s.2 ∧ (∃ t, s.1 = all ++ t) ∧ s.1 = passL (grM N m) all (all.take i)) _ ?_ ?_ N 0 (all, met) (by omega) (by omega) ⟨ht, ⟨[], by simp⟩, rfl⟩
 ·rintro k i ⟨al, mt⟩ hi ⟨h1, ⟨t, h2⟩, h3⟩ go
  show Sat (reach_row_pass_l13 N ⟨m, all, met, d⟩ (k + 1) (i : Int) m.Young m.Old al mt d) _
  simp only at h1 h2 h3
  have hlen1 := h1.len hs
  have htk : List.take all.length al = all := by rw [h2, List.take_left']; rfl
  have hx := List.getElem_mem hi
  have hsm := hs.at_ all[i]
  have hat : reach_At_O N ⟨m.Young, m.Old⟩ all[i] = some (atM m all[i]) := at_prog N hs all[i] (ht.in64 hs hx)
  have hnext : passL (grM N m) all (all.take (i + 1)) = layL (hasM m) al (opensL N (atM m all[i]) al) := by
   rw [take_succ_get hi, passL_two, ← h3]; rfl
  rw [reach_row_pass_l13_s]
  simp only [List.take_length]
  rw [lt_t (by omega), ct, htk, getE_n hi, bs, hat, bs]
  unfold reach_row_pass_j21
  by_cases h8 : (atM m all[i]).Kind = 8
  ·rw [eq_t h8, ct, opens_prog N hN al (by omega) _ (by omega) (by omega), bs]
   obtain ⟨hl1, hl2⟩ := opens_ok N hs hw all[i] al
   obtain ⟨⟨m', al', mt', d'⟩, e0, e1, e2, h5, h6⟩ := lay_fun N hN hs d _ hl1 hl2 h1
   simp only at e1 e2 h5 h6
   subst e1 e2
   have e0' : reach_row_lay_O N ⟨⟨m'.Young, m'.Old⟩, al, mt, d'⟩ (opensL N (atM m' all[i]) al) = some ⟨m', al', mt', d'⟩ := e0
   rw [e0', bs]
   dsimp only
   rw [r64 (by omega) (by omega)]
   obtain ⟨t', e', -⟩ := layL_app (hasM m') al (opensL N (atM m' all[i]) al)
   exact go (al', mt') ⟨h5, ⟨t ++ t', by show al' = _; rw [h6, e', h2, List.append_assoc]⟩, by show al' = _; rw [hnext, h6]⟩
  ·rw [eq_f h8, cf, r64 (by omega) (by omega)]
   refine go (al, mt) ⟨h1, ⟨t, h2⟩, ?_⟩
   have h0 : opensL N (atM m all[i]) al = [] := by
    unfold opensL isWM
    rw [eq_f h8]; rfl
   show al = _
   rw [hnext, h0]; rfl
 ·rintro k ⟨al, mt⟩ ⟨h1, ⟨t, h2⟩, h3⟩
  show Sat (reach_row_pass_l13 N ⟨m, all, met, d⟩ (k + 1) _ m.Young m.Old al mt d) _
  rw [reach_row_pass_l13_s]
  simp only [List.take_length] at h3 ⊢
  rw [lt_f (by omega), cf]
  exact sat_some ⟨rfl, rfl, h1, rfl, h3⟩
theorem order_fun (N : Nat) (hN : 5000 < N) {m : DMemory} {roots : List DValue} (hs : Small m roots) (hw : W64 m) (hr : ∀ v ∈ roots, in64 v.N) :
  ∃ b all, IsOrder (grM N m) (addrL roots) b.all_ all ∧ all.length ≤ 1200 ∧ b.all_.length ≤ 1200 ∧ reach_begin_O N m roots = some b ∧ reach_Order_O N m roots = some all := by
 obtain ⟨⟨m', al0, mt0, d0⟩, e0, e1, e2, h1, h2⟩ := begin_fun N hN hs hw hr
 simp only at e1 e2 h1 h2
 subst e1 e2
 have hlen0 := h1.len hs
 have key : Sat (reach_Order_O N m' roots) fun all => Ord (grM N m') al0 all ∧ all.length ≤ 1200 := by
  unfold reach_Order_O
  rw [e0, bs]
  refine loop_dec (fun f (s : List Int × List (Int × Unit)) => reach_Order_l17 N f m'.Young m'.Old s.1 s.2 (s.1.length : Int)) (fun s => 1300 - s.1.length) (fun s => Tr m' s.1 s.2 ∧ ∀ r, Ord (grM N m') s.1 r → Ord (grM N m') al0 r) _ ?_ N (al0, mt0) (by show 1300 - al0.length < N; omega) ⟨h1, fun _ h => h⟩
  rintro f ⟨al, mt⟩ ⟨h4, h5⟩ go
  show Sat (reach_Order_l17 N (f + 1) m'.Young m'.Old al mt (al.length : Int)) _
  simp only at h4 h5
  have hlen := h4.len hs
  rw [reach_Order_l17_s]
  obtain ⟨⟨b, m2, al2, mt2, d2⟩, g0, g1, g2, g3, g5, g6⟩ := pass_fun N hN hs hw h4 (al.length : Int)
  simp only at g1 g2 g3 g5 g6
  subst g1 g2
  have hlen2 := g3.len hs
  have g0' : reach_row_pass_O N ⟨⟨m2.Young, m2.Old⟩, al, mt, (al.length : Int)⟩ = some (b, ⟨m2, al2, mt2, (al.length : Int)⟩) := g0
  obtain ⟨t2, ht2⟩ := passL_app (grM N m2) al al
  rw [g0', bs]
  dsimp only
  rw [g5]
  refine sat_dec (fun hlt => ?_) fun hge => ?_
  ·refine Sat.bind (through_fun N hN hs hw g3 al.length (by omega)) ?_
   rintro ⟨m3, al3, mt3, d3⟩ ⟨k1, k2, k3, k4⟩
   simp only at k1 k2 k3 k4
   subst k1 k2
   have hlen3 := k3.len hs
   refine go (al3, mt3) ?_ ⟨k3, fun r h => h5 r (.step ?_ (by rw [← g6]; exact k4) h)⟩
   ·show 1300 - al3.length < 1300 - al.length
    obtain ⟨t3, e3⟩ := k4.app
    have : al2.length ≤ al3.length := by rw [e3, List.length_append]; omega
    omega
   ·rw [← g6]; intro e; rw [e] at hlt; omega
  ·have e : al2 = al := by
    rw [ht2] at g6
    have h0 : t2 = [] := List.eq_nil_of_length_eq_zero (by rw [g6, List.length_append] at hge; omega)
    rw [g6, h0, List.append_nil]
   subst e
   unfold reach_Order_j11
   exact sat_some ⟨h5 _ (.done g6.symm), by omega⟩
 obtain ⟨all, k1, k2, k3⟩ := key
 exact ⟨⟨m', al0, mt0, (al0.length : Int)⟩, all, ⟨h2, k2⟩, k3, hlen0, e0, k1⟩
end Go.Proofs.YtmbaennilhdieaaGreat
/- Plain: sorted addresses, the examples, small memories. -/
namespace Go.Proofs.YtmbaennilhdieaaGreat
open Go.RowKit
theorem sortL_mem (l : List Int) (x : Int) : x ∈ sortL l ↔ x ∈ l := by unfold sortL; exact List.mem_mergeSort
theorem sortL_asc {l : List Int} (h : l.Nodup) : (sortL l).Pairwise (· < ·) := by
 have h1 : (sortL l).Pairwise fun a b => decide (a ≤ b) = true := List.pairwise_mergeSort (by intro a b c h1 h2; simp at *; omega) (by intro a b; simp; omega) l
 have h2 : (sortL l).Nodup := (List.mergeSort_perm l _).nodup_iff.2 h
 rw [List.nodup_iff_pairwise_ne] at h2
 exact h1.imp₂ (fun a b h3 h4 => by simp at h3; omega) h2
theorem sortL_eq {l s : List Int} (h : l.Nodup) (hs : s.Pairwise (· < ·)) (he : ∀ x, x ∈ l ↔ x ∈ s) : sortL l = s := asc_ext (sortL_asc h) hs fun x => (sortL_mem l x).trans (he x)
theorem sort_spec (N : Nat) (l : List Int) (h : l.length ≤ 5000) : slices_Sort_O N l = some (sortL l) := by
 unfold slices_Sort_O; rw [rF (by omega)]
def obj (n : Int) : DValue := ⟨7, n, ⟨#[]⟩⟩
def boxC' (l : List DValue) : DCell := ⟨11, 0, 0, 0, [], l⟩
def exM : DMemory := ⟨[⟨11, 0, 0, 0, [], [⟨7, 3, ⟨#[]⟩⟩, ⟨7, 2, ⟨#[]⟩⟩]⟩, ⟨11, 0, 0, 0, [], []⟩], [⟨11, 0, 0, 0, [], []⟩]⟩
def exW : DMemory := ⟨[⟨8, 0, 0, 0, [⟨1, 0, ⟨#[]⟩⟩], [⟨7, 3, ⟨#[]⟩⟩, ⟨7, 5, ⟨#[]⟩⟩]⟩, ⟨11, 0, 0, 0, [], []⟩, ⟨11, 0, 0, 0, [], []⟩], []⟩
theorem live_of {N : Nat} {m : DMemory} {roots : List DValue} {l s : List Int} (h : reach_Order_O N m roots = some l) (hl : l.length ≤ 5000) (hs : sortL l = s) : reach_Live_O N m roots = some s := by
 unfold reach_Live_O
 rw [h, bs, sort_spec N l hl, bs, hs]
end Go.Proofs.YtmbaennilhdieaaGreat
/- Plain: the reference's traversal is the one of the relation. -/
namespace Go.Proofs.YtmbaennilhdieaaGreat
open Go.RowKit
structure Tq (m : DMemory) (all : List Int) : Prop where
 nd : all.Nodup
 has : ∀ x ∈ all, hasM m x = true
theorem Tq.len {m : DMemory} {roots : List DValue} (hs : Small m roots) {all : List Int} (h : Tq m all) : all.length ≤ 1200 := nodup_le 1200 h.nd fun x hx => ⟨by have := hasM_pos (h.has x hx); omega, by have := hasM_le hs (h.has x hx); omega⟩
theorem Tq.in64 {m : DMemory} {roots : List DValue} (hs : Small m roots) {all : List Int} (h : Tq m all) {x : Int} (hx : x ∈ all) : in64 x := by
 have h1 := hasM_pos (h.has x hx)
 have h2 := hasM_le hs (h.has x hx)
 unfold Go.Proofs.YtmbaennilhdieaaGreat.in64; omega
theorem Tq.lay {m : DMemory} {all : List Int} (h : Tq m all) (l : List Int) : Tq m (layL (hasM m) all l) := ⟨layL_nodup l h.nd, fun x hx => (layL_new hx).elim (h.has x) (·.1)⟩
theorem rlay_fun (N : Nat) {m : DMemory} {roots : List DValue} (hN : 5000 < N) (hs : Small m roots) (l : List Int) (hl : l.length ≤ 2000) (h64 : ∀ x ∈ l, in64 x) {all : List Int} (ht : Tq m all) : r19_lay_O N m all l = some (layL (hasM m) all l) := by
 apply Sat.eq
 unfold r19_lay_O
 refine loop_inv (fun k i (s : List Int) => r19_lay_l8 N l m k s (i : Int)) l.length (fun i s => Tq m s ∧ s = layL (hasM m) all (l.take i)) _ ?_ ?_ N 0 all (by omega) (by omega) ⟨ht, rfl⟩
 ·rintro k i s hi ⟨h0, h1⟩ go
  show Sat (r19_lay_l8 N l m (k + 1) s (i : Int)) _
  have hx64 := h64 l[i] (List.getElem_mem _)
  have hsl := h0.len hs
  have hnext : layL (hasM m) all (l.take (i + 1)) = (bif hasM m l[i] && !decide (l[i] ∈ s) then s ++ [l[i]] else s) := by
   rw [take_succ_get hi, layL_two, ← h1]; rfl
  have hT : Tq m (layL (hasM m) all (l.take (i + 1))) := ht.lay _
  rw [r19_lay_l8_s, lt_t (by omega), ct]
  simp only [getE_n hi, bs, has_ref N m _ hx64, in19 N hN s (by omega) l[i]]
  unfold r19_lay_j12
  cases hh : hasM m l[i]
  ·simp only [cf, bs]
   rw [r64 (by omega) (by omega)]
   exact go s ⟨h0, by rw [hnext, hh]; rfl⟩
  ·simp only [ct, bs]
   by_cases hm : l[i] ∈ s
   ·rw [decide_eq_true hm]
    simp only [nt, cf]
    rw [r64 (by omega) (by omega)]
    exact go s ⟨h0, by rw [hnext, hh, decide_eq_true hm]; rfl⟩
   ·have e : layL (hasM m) all (l.take (i + 1)) = s ++ [l[i]] := by rw [hnext, hh, decide_eq_false hm]; rfl
    rw [decide_eq_false hm]
    simp only [nf, ct]
    rw [rF (by simp; omega), r64 (by omega) (by omega)]
    exact go (s ++ [l[i]]) ⟨e ▸ hT, e.symm⟩
 ·rintro k s ⟨h0, h1⟩
  show Sat (r19_lay_l8 N l m (k + 1) s _) _
  rw [r19_lay_l8_s, lt_f (by omega), cf]
  exact sat_some (by simpa using h1)
theorem raddr_fun (N : Nat) (hN : 5000 < N) (l : List DValue) (hl : l.length ≤ 2000) : r19_addresses_O N l = some (addrL l) := by
 apply Sat.eq
 unfold r19_addresses_O
 refine loop_inv (fun k i (s : List Int) => r19_addresses_l5 N l k s (i : Int)) l.length (fun i s => s = addrL (l.take i)) _ ?_ ?_ N 0 [] (by omega) (by omega) rfl
 ·rintro k i s hi h1 go
  show Sat (r19_addresses_l5 N l (k + 1) s (i : Int)) _
  have hsl : s.length ≤ 2000 := by
   rw [h1]; unfold addrL; rw [List.length_map]
   exact Nat.le_trans (List.length_filter_le _ _) (by rw [List.length_take]; omega)
  have hnext : addrL (l.take (i + 1)) = s ++ addrL [l[i]] := by rw [take_succ_get hi, addrL_app, h1]
  rw [r19_addresses_l5_s, lt_t (by omega), ct]
  simp only [getE_n hi, bs, kind_has]
  unfold r19_addresses_j9
  cases hb : hasB l[i]
  ·simp only [cf]
   rw [r64 (by omega) (by omega)]
   exact go s (by rw [hnext]; simp [addrL, hb])
  ·simp only [ct]
   rw [rF (by simp; omega), r64 (by omega) (by omega)]
   exact go (s ++ [l[i].N]) (by rw [hnext]; simp [addrL, hb])
 ·rintro k s h1
  show Sat (r19_addresses_l5 N l (k + 1) s _) _
  rw [r19_addresses_l5_s, lt_f (by omega), cf]
  exact sat_some (by simpa using h1)
theorem rthrough_fun (N : Nat) (hN : 5000 < N) {m : DMemory} {roots : List DValue} (hs : Small m roots) (hw : W64 m) {all : List Int} (ht : Tq m all) (k : Nat) (hk : k ≤ all.length) :
  Sat (r19_through_O N m all (k : Int)) fun r => Tq m r ∧ Thr (grM N m) all k r := by
 unfold r19_through_O
 refine loop_dec (fun f (s : List Int × Nat) => r19_through_l7 N m f s.1 (s.2 : Int)) (fun s => 1300 - s.2) (fun s => Tq m s.1 ∧ s.2 ≤ s.1.length ∧ ∀ r, Thr (grM N m) s.1 s.2 r → Thr (grM N m) all k r) _ ?_ N (all, k) (by show 1300 - k < N; omega) ⟨ht, hk, fun _ h => h⟩
 rintro f ⟨al, j⟩ ⟨h1, h3, h4⟩ go
 show Sat (r19_through_l7 N m (f + 1) al (j : Int)) _
 simp only at h1 h3 h4
 have hlen := h1.len hs
 rw [r19_through_l7_s]
 by_cases hj : j < al.length
 ·have hx := List.getElem_mem hj
  have hsm := hs.at_ al[j]
  obtain ⟨hl1, hl2⟩ := leads_ok hs hw al[j]
  rw [lt_t (by omega), ct, getE_n hj, bs, at_ref N m _ (h1.in64 hs hx), bs, leads_ref N (by omega) _ (by omega) (by omega), bs, rlay_fun N hN hs _ hl1 hl2 h1, bs, r64 (by omega) (by omega)]
  have hge : al.length ≤ (layL (hasM m) al (leadsL (atM m al[j]))).length := by
   obtain ⟨t, e, -⟩ := layL_app (hasM m) al (leadsL (atM m al[j]))
   rw [e, List.length_append]; omega
  exact go (layL (hasM m) al (leadsL (atM m al[j])), j + 1) (by show 1300 - (j + 1) < 1300 - j; omega) ⟨h1.lay _, by show j + 1 ≤ (layL (hasM m) al (leadsL (atM m al[j]))).length; omega, fun r hr => h4 r (.step (List.getElem?_eq_getElem hj) hr)⟩
 ·have : j = al.length := by omega
  subst this
  rw [lt_f (by omega), cf]
  exact sat_some ⟨h1, h4 _ (.done (Nat.le_refl _))⟩
theorem rorder_fun (N : Nat) (hN : 5000 < N) {m : DMemory} {roots : List DValue} (hs : Small m roots) (hw : W64 m) (hr : ∀ v ∈ roots, in64 v.N) :
  ∃ b all, IsOrder (grM N m) (addrL roots) b all ∧ r19_Order_O N m roots = some all ∧ ((r19_addresses_O N roots).bind fun y5 => (r19_lay_O N m ([] : List Int) y5).bind fun y8 => r19_through_O N m y8 0) = some b := by
 have hrl := hs.roots
 have ha := raddr_fun N hN roots (by omega)
 have h64 : ∀ x ∈ addrL roots, in64 x := fun x hx => by
  obtain ⟨v, h1, -, rfl⟩ := addrL_mem.1 hx
  exact hr v h1
 have hal : (addrL roots).length ≤ 2000 := by
  unfold addrL; rw [List.length_map]; exact Nat.le_trans (List.length_filter_le _ _) (by omega)
 have hT0 : Tq m [] := ⟨List.nodup_nil, by simp⟩
 have hlay := rlay_fun N hN hs (addrL roots) hal h64 hT0
 obtain ⟨b, b0, b1, b2⟩ := rthrough_fun N hN hs hw (hT0.lay (addrL roots)) 0 (Nat.zero_le _)
 have b0' : r19_through_O N m (layL (hasM m) [] (addrL roots)) 0 = some b := b0
 have key : Sat (r19_Order_O N m roots) fun all => Ord (grM N m) b all := by
  unfold r19_Order_O
  rw [ha, bs, hlay, bs, b0', bs]
  refine loop_dec (fun f (s : List Int) => r19_Order_l12 N m f s) (fun s => 1300 - s.length) (fun s => Tq m s ∧ ∀ r, Ord (grM N m) s r → Ord (grM N m) b r) _ ?_ N b (by show 1300 - b.length < N; omega) ⟨b1, fun _ h => h⟩
  rintro f al ⟨h4, h5⟩ go
  show Sat (r19_Order_l12 N m (f + 1) al) _
  have hlen := h4.len hs
  rw [r19_Order_l12_s]
  refine loop_inv (fun k i (s : List Int) => r19_Order_l16 N (r19_Order_l12 N m f) al m k s (i : Int)) al.length (fun i s => Tq m s ∧ (∃ t, s = al ++ t) ∧ s = passL (grM N m) al (al.take i)) _ ?_ ?_ N 0 al (by omega) (by omega) ⟨h4, ⟨[], by simp⟩, rfl⟩
  ·rintro k i s hi ⟨h0, ⟨t, h1⟩, h2⟩ go2
   show Sat (r19_Order_l16 N (r19_Order_l12 N m f) al m (k + 1) s (i : Int)) _
   have hsl := h0.len hs
   have hg : getE s (i : Int) = some al[i] := by
    rw [getE_nat, h1, List.getElem?_append_left hi, List.getElem?_eq_getElem hi]
   have hx := List.getElem_mem hi
   have hsm := hs.at_ al[i]
   obtain ⟨hl1, hl2⟩ := opens_ok N hs hw al[i] s
   have hnext : passL (grM N m) al (al.take (i + 1)) = layL (hasM m) s (opensL N (atM m al[i]) s) := by
    rw [take_succ_get hi, passL_two, ← h2]; rfl
   rw [r19_Order_l16_s, lt_t (by omega), ct, hg, bs, at_ref N m _ (h4.in64 hs hx), bs, opens_ref N hN s (by omega) _ (by omega) (by omega), bs, rlay_fun N hN hs _ hl1 hl2 h0, bs, r64 (by omega) (by omega)]
   obtain ⟨t', e', -⟩ := layL_app (hasM m) s (opensL N (atM m al[i]) s)
   exact go2 _ ⟨h0.lay _, ⟨t ++ t', by rw [e', h1, List.append_assoc]⟩, hnext.symm⟩
  ·rintro k s ⟨h0, ⟨t, h1⟩, h2⟩
   show Sat (r19_Order_l16 N (r19_Order_l12 N m f) al m (k + 1) s _) _
   have hsl := h0.len hs
   simp only [List.take_length] at h2
   rw [r19_Order_l16_s, lt_f (by omega), cf]
   unfold r19_Order_j14
   refine sat_dec (fun he => ?_) fun hne => ?_
   ·have h6 : t = [] := List.eq_nil_of_length_eq_zero (by rw [h1, List.length_append] at he; omega)
    have h7 : s = al := by rw [h1, h6, List.append_nil]
    exact sat_some (by rw [h7] at h2 ⊢; exact h5 _ (.done h2.symm))
   ·have hle : al.length ≤ s.length := by rw [h1, List.length_append]; omega
    refine Sat.bind (rthrough_fun N hN hs hw h0 al.length hle) fun r ⟨r1, r2⟩ => ?_
    obtain ⟨t3, e3⟩ := r2.app
    have hl3 := r1.len hs
    refine go r ?_ ⟨r1, fun r' hr' => h5 r' (.step ?_ (by rw [← h2]; exact r2) hr')⟩
    ·show 1300 - r.length < 1300 - al.length
     have : s.length ≤ r.length := by rw [e3, List.length_append]; omega
     omega
    ·rw [← h2]; intro e; rw [e] at hne; omega
 obtain ⟨all, k1, k2⟩ := key
 exact ⟨b, all, ⟨b2, k2⟩, k1, by rw [ha, bs, hlay, bs]; exact b0'⟩
end Go.Proofs.YtmbaennilhdieaaGreat
/- Plain: the reference's sorted copies. -/
namespace Go.Proofs.YtmbaennilhdieaaGreat
open Go.RowKit
theorem swap_perm : ∀ {s : List Int} {k : Nat} (h : k + 1 < s.length), ((s.set (k + 1) (s[k]'(by omega))).set k s[k + 1]).Perm s
 | a :: b :: r, 0, _ => List.Perm.swap a b r
 | a :: r, k + 1, h => by
  have ih := swap_perm (s := r) (k := k) (by simpa using h)
  simp only [List.set_cons_succ, List.getElem_cons_succ]
  exact ih.cons a
def Ins (s : List Int) (i k : Nat) : Prop := ∀ a b : Nat, a < b → b ≤ i → b ≠ k → s.getD a 0 ≤ s.getD b 0
theorem getD_set (s : List Int) (i j : Nat) (x : Int) (hi : i < s.length) : (s.set i x).getD j 0 = if j = i then x else s.getD j 0 := by
 by_cases e : j = i
 ·subst e; simp [List.getD, hi]
 ·rw [if_neg e]
  simp only [List.getD]
  rw [List.getElem?_set_ne (fun h => e h.symm)]
theorem getD_at (s : List Int) (i : Nat) (hi : i < s.length) : s.getD i 0 = s[i] := by simp [List.getD, hi]
theorem rising_fun (N : Nat) (hN : 5000 < N) (l : List Int) (hl : l.length ≤ 2000) (hn : l.Nodup) : r19_rising_O N l = some (sortL l) := by
 apply Sat.eq
 unfold r19_rising_O
 rw [rF (by simp; omega), List.nil_append]
 have fin : ∀ s : List Int, s.Perm l → Ins s (l.length - 1) l.length → s = sortL l := fun s hp hi => by
  have hlen := hp.length_eq
  have hnd : s.Nodup := hp.nodup_iff.2 hn
  refine (sortL_eq hn (List.pairwise_iff_getElem.2 fun a b ha hb hab => ?_) fun x => (hp.mem_iff).symm).symm
  have h1 := hi a b hab (by omega) (by omega)
  rw [getD_at s a ha, getD_at s b hb] at h1
  have h2 := List.pairwise_iff_getElem.1 (List.nodup_iff_pairwise_ne.1 hnd) a b ha hb hab
  omega
 by_cases h0 : l.length = 0
 ·have e : l = [] := List.eq_nil_of_length_eq_zero h0
  subst e
  obtain ⟨n, rfl⟩ : ∃ n, N = n + 1 := ⟨N - 1, by omega⟩
  rw [r19_rising_l7_s, lt_f (by simp), cf]
  exact sat_some (by unfold sortL; simp)
 refine loop_inv (fun k i (s : List Int) => r19_rising_l7 N k s (i : Int)) l.length (fun i s => s.Perm l ∧ Ins s (i - 1) l.length) _ ?_ ?_ N 1 l (by omega) (by omega) ⟨List.Perm.refl _, fun a b h1 h2 => absurd h2 (by omega)⟩
 ·rintro f i s hi ⟨h1, h2⟩ go
  show Sat (r19_rising_l7 N (f + 1) s (i : Int)) _
  have hlen := h1.length_eq
  rw [r19_rising_l7_s, hlen, lt_t (by omega), ct]
  have hi0 : i ≤ l.length := by omega
  refine loop_dec (fun k (st : List Int × Nat) => r19_rising_l13 N (r19_rising_l7 N f) (i : Int) k st.1 (st.2 : Int)) (fun st => st.2) (fun st => st.1.Perm l ∧ st.2 ≤ i ∧ Ins st.1 i st.2) _ ?_ N (s, i) (by show i < N; omega) ⟨h1, Nat.le_refl _, fun a b q1 q2 q3 => h2 a b q1 (by show b ≤ i - 1; simp only at q3; omega) (by omega)⟩
  rintro k ⟨t, j⟩ ⟨g1, g2, g3⟩ go2
  simp only at g1 g2 g3
  show Sat (r19_rising_l13 N (r19_rising_l7 N f) (i : Int) (k + 1) t (j : Int)) _
  have hlt := g1.length_eq
  have stop : (j = 0 ∨ t.getD (j - 1) 0 ≤ t.getD j 0) → Sat (r19_rising_j11 N (r19_rising_l7 N f) (i : Int) t) (· = sortL l) := fun hst => by
   unfold r19_rising_j11
   rw [r64 (by omega) (by omega)]
   refine go t ⟨g1, fun a b q1 q2 q3 => ?_⟩
   have q2' : b ≤ i := by omega
   by_cases e : b = j
   ·subst e
    rcases hst with h | h
    ·omega
    ·by_cases e2 : a = b - 1
     ·subst e2; exact h
     ·have := g3 a (b - 1) (by omega) (by omega) (by omega); omega
   ·exact g3 a b q1 q2' e
  rw [r19_rising_l13_s]
  by_cases hj : 0 < j
  ·have hp : getE t ((j : Int) - 1) = some (t[j - 1]'(by omega)) := by
    have := getE_n (xs := t) (i := j - 1) (by omega)
    rw [show (((j - 1 : Nat)) : Int) = (j : Int) - 1 by omega] at this
    exact this
   have hq : getE t (j : Int) = some (t[j]'(by omega)) := getE_n (by omega)
   rw [lt_t (by omega), ct, r64 (by omega) (by omega), hp, bs, hq, bs, bs]
   by_cases hc : t[j]'(by omega) < t[j - 1]'(by omega)
   ·rw [lt_t hc, ct, bs, r64 (a := (j : Int) - 1) (by omega) (by omega), bs, bs, r64 (a := (j : Int) - 1) (by omega) (by omega)]
    have hs2 : getE (List.set t (j : Int).toNat (t[j - 1]'(by omega))) ((j : Int) - 1) = some ((List.set t (j : Int).toNat (t[j - 1]'(by omega)))[j - 1]'(by simp; omega)) := by
     have := getE_n (xs := List.set t (j : Int).toNat (t[j - 1]'(by omega))) (i := j - 1) (by simp; omega)
     rw [show (((j - 1 : Nat)) : Int) = (j : Int) - 1 by omega] at this
     exact this
    rw [hs2, bs, r64 (a := (j : Int) - 1) (by omega) (by omega), Int.toNat_natCast, show ((j : Int) - 1).toNat = j - 1 by omega, show (j : Int) - 1 = ((j - 1 : Nat) : Int) by omega]
    obtain ⟨q, rfl⟩ : ∃ q, j = q + 1 := ⟨j - 1, by omega⟩
    simp only [Nat.add_sub_cancel] at *
    refine go2 ((t.set (q + 1) (t[q]'(by omega))).set q (t[q + 1]'(by omega)), q) (by show q < q + 1; omega) ⟨(swap_perm (by omega)).trans g1, by show q ≤ i; omega, fun a b q1 q2 q3 => ?_⟩
    have q3' : b ≠ q := q3
    have hqa := getD_at t q (by omega)
    have hqb := getD_at t (q + 1) (by omega)
    show ((t.set (q + 1) (t[q]'(by omega))).set q (t[q + 1]'(by omega))).getD a 0 ≤ ((t.set (q + 1) (t[q]'(by omega))).set q (t[q + 1]'(by omega))).getD b 0
    rw [getD_set _ q _ _ (by simp; omega), getD_set _ q _ _ (by simp; omega), getD_set t (q + 1) _ _ (by omega), getD_set t (q + 1) _ _ (by omega), if_neg q3']
    by_cases b1 : b = q + 1
    ·rw [if_pos b1]
     by_cases a1 : a = q
     ·rw [if_pos a1]; omega
     ·rw [if_neg a1, if_neg (by omega), ← hqa]
      exact g3 a q (by omega) (by omega) (by omega)
    ·rw [if_neg b1]
     by_cases a1 : a = q
     ·rw [if_pos a1, ← hqb]; exact g3 (q + 1) b (by omega) q2 b1
     ·rw [if_neg a1]
      by_cases a2 : a = q + 1
      ·rw [if_pos a2, ← hqa]; exact g3 q b (by omega) q2 b1
      ·rw [if_neg a2]; exact g3 a b q1 q2 b1
   ·rw [lt_f (by omega), cf]
    refine stop (.inr ?_)
    rw [getD_at t (j - 1) (by omega), getD_at t j (by omega)]; omega
  ·rw [lt_f (by omega), cf, bs, cf]
   exact stop (.inl (by omega))
 ·rintro f s ⟨h1, h2⟩
  show Sat (r19_rising_l7 N (f + 1) s _) _
  rw [r19_rising_l7_s, h1.length_eq, lt_f (by omega), cf]
  unfold r19_rising_j5
  exact sat_some (fin s h1 h2)
end Go.Proofs.YtmbaennilhdieaaGreat
/- Plain: weak references; equal lists, cells, memories; valid memories, on both sides. -/
namespace Go.Proofs.YtmbaennilhdieaaGreat
open Go.RowKit
def weaklyL (c : DCell) : List Int := pick (fun i v => weakB c.Kind i && hasB v) 0 c.More
theorem weakly_prog (N : Nat) (hN : 2000 < N) (c : DCell) (hS : c.Slots.length ≤ 1000) (hc : c.More.length ≤ 1000) : cell_Weakly_O N c = some (weaklyL c) := by
 unfold cell_Weakly_O weaklyL
 rw [addresses_spec N hN false c hS hc, bs]
 have e1 : (fun (_ : Nat) (v : DValue) => (true == false) && hasB v) = fun _ _ => false := by funext i v; rfl
 have e2 : (fun (i : Nat) (v : DValue) => (strongB c.Kind i == false) && hasB v) = fun i v => weakB c.Kind i && hasB v := by funext i v; rw [strong_weak]; cases weakB c.Kind i <;> rfl
 rw [e1, e2, pick_none, List.nil_append]
theorem weaklyL_len (c : DCell) : (weaklyL c).length ≤ c.More.length := pick_len _ 0 c.More
theorem weaklyL_mem {c : DCell} {x : Int} (h : x ∈ weaklyL c) : ∃ v ∈ c.Slots ++ c.More, v.N = x := by
 obtain ⟨v, h1, h2⟩ := pick_mem h
 exact ⟨v, List.mem_append_right _ h1, h2⟩
theorem sameV (N : Nat) (a b : List DValue) (ha : a.length < N) (ha2 : a.length ≤ 5000) : r15_SameValues_O N a b = some (decide (a = b)) := by
 unfold r15_SameValues_O
 refine eq_loop _ a b (fun hl m i h h' => ?_) (fun m => ?_) N ha
 ·rw [r15_SameValues_l5_s, lt_t (by omega), ct, getE_n h, bs, getE_n h', bs, r64 (by omega) (by omega)]
  cases decide (a[i] = b[i]) <;> rfl
 ·rw [r15_SameValues_l5_s, lt_f (by omega), cf]; rfl
theorem cell_eq (a b : DCell) : decide (a = b) = (decide (a.Kind = b.Kind) && decide (a.Shape = b.Shape) && decide (a.Flags = b.Flags) && decide (a.Age = b.Age) && decide (a.Slots = b.Slots) && decide (a.More = b.More)) := by
 obtain ⟨a1, a2, a3, a4, a5, a6⟩ := a
 obtain ⟨b1, b2, b3, b4, b5, b6⟩ := b
 rw [Bool.eq_iff_iff]
 simp only [Bool.and_eq_true, decide_eq_true_eq, DCell.mk.injEq, and_assoc]
theorem sameC (N : Nat) (a b : DCell) (h1 : a.Slots.length < N) (h2 : a.Slots.length ≤ 5000) (h3 : a.More.length < N) (h4 : a.More.length ≤ 5000) : r15_Same_O N a b = some (decide (a = b)) := by
 unfold r15_Same_O
 rw [sameV N a.Slots b.Slots h1 h2, sameV N a.More b.More h3 h4, cell_eq]
 simp only [bs]
 cases decide (a.Kind = b.Kind) <;> cases decide (a.Shape = b.Shape) <;> cases decide (a.Flags = b.Flags) <;> cases decide (a.Age = b.Age) <;> cases decide (a.Slots = b.Slots) <;> cases decide (a.More = b.More) <;> rfl
theorem cells19 (N : Nat) (a b : List DCell) (ha : a.length < N) (ha2 : a.length ≤ 5000) (hN : 5000 < N) (hc : ∀ c ∈ a, c.Slots.length ≤ 5000 ∧ c.More.length ≤ 5000) : r19_Cells_O N a b = some (decide (a = b)) := by
 unfold r19_Cells_O
 refine eq_loop _ a b (fun hl m i h h' => ?_) (fun m => ?_) N ha
 ·have h1 := hc a[i] (List.getElem_mem _)
  rw [r19_Cells_l5_s, lt_t (by omega), ct, getE_n h, bs, getE_n h', bs, sameC N _ _ (by omega) (by omega) (by omega) (by omega), bs, r64 (by omega) (by omega)]
  cases decide (a[i] = b[i]) <;> rfl
 ·rw [r19_Cells_l5_s, lt_f (by omega), cf]; rfl
def wholeB (m : DMemory) (l : List Int) : Bool := l.all (hasM m)
def fineC (N : Nat) (m : DMemory) (c : DCell) : Bool := (r15_Right_O N c).getD false && (wholeB m (leadsL c) && wholeB m (weaklyL c))
def rightM (N : Nat) (m : DMemory) (roots : List DValue) : Bool := m.Young.all (fineC N m) && (m.Old.all (fineC N m) && wholeB m (addrL roots))
theorem weakly_ok {m : DMemory} {roots : List DValue} (hs : Small m roots) (hw : W64 m) {c : DCell} (hc : c ∈ m.Young ++ m.Old) : ((leadsL c).length ≤ 1200 ∧ ∀ x ∈ leadsL c, in64 x) ∧ (weaklyL c).length ≤ 1200 ∧ ∀ x ∈ weaklyL c, in64 x := by
 have h1 := hs.cells c hc
 have h2 := leadsL_len c
 have h3 := weaklyL_len c
 refine ⟨⟨by omega, fun x hx => ?_⟩, by omega, fun x hx => ?_⟩
 ·obtain ⟨v, h4, rfl⟩ := leadsL_mem hx
  exact hw c hc v h4
 ·obtain ⟨v, h4, rfl⟩ := weaklyL_mem hx
  exact hw c hc v h4
end Go.Proofs.YtmbaennilhdieaaGreat
/- Plain: memories of a bounded size. -/
namespace Go.Proofs.YtmbaennilhdieaaGreat
open Go.RowKit
structure Bnd (B : Nat) (m : DMemory) (roots : List DValue) : Prop where
 young : m.Young.length ≤ B
 old : m.Old.length ≤ B
 roots : roots.length ≤ B
 cells : ∀ c ∈ m.Young ++ m.Old, c.Slots.length ≤ B ∧ c.More.length ≤ B
end Go.Proofs.YtmbaennilhdieaaGreat
/- Plain: the weight of a memory. -/
namespace Go.Proofs.YtmbaennilhdieaaGreat
open Go.RowKit
def wt : List DCell → Nat
 | [] => 0
 | c :: l => 1 + c.Slots.length + c.More.length + wt l
theorem wt_app : ∀ a b : List DCell, wt (a ++ b) = wt a + wt b
 | [], b => by simp [wt]
 | c :: a, b => by rw [List.cons_append, wt, wt, wt_app a b]; omega
theorem wt_len : ∀ l : List DCell, l.length ≤ wt l
 | [] => Nat.le_refl _
 | c :: l => by have := wt_len l; rw [wt, List.length_cons]; omega
theorem wt_mem : ∀ {l : List DCell} {c : DCell}, c ∈ l → 1 + c.Slots.length + c.More.length ≤ wt l
 | d :: l, c, h => by
  rw [wt]
  rcases List.mem_cons.1 h with rfl | h
  ·omega
  ·have := wt_mem h; omega
theorem wt_take {l : List DCell} {i : Nat} (h : i < l.length) : wt (l.take (i + 1)) = wt (l.take i) + (1 + l[i].Slots.length + l[i].More.length) := by
 rw [take_succ_get h, wt_app]; simp [wt]
def W6 (m : DMemory) (roots : List DValue) : Prop := roots.length + wt m.Young + wt m.Old ≤ 600
structure Wtd (m : DMemory) (roots : List DValue) : Prop where
 le : roots.length + wt m.Young + wt m.Old ≤ 2400
 cnt : m.Young.length + m.Old.length ≤ 600
theorem W6.wtd {m : DMemory} {roots : List DValue} (h : W6 m roots) : Wtd m roots := by
 have h1 : roots.length + wt m.Young + wt m.Old ≤ 600 := h
 have h2 := wt_len m.Young
 have h3 := wt_len m.Old
 exact ⟨by omega, by omega⟩
theorem W6.small {m : DMemory} {roots : List DValue} (h : W6 m roots) : Small m roots := by
 have h1 : roots.length + wt m.Young + wt m.Old ≤ 600 := h
 have h2 := wt_len m.Young
 have h3 := wt_len m.Old
 refine ⟨by omega, by omega, by omega, fun c hc => ?_⟩
 rcases List.mem_append.1 hc with hc | hc
 ·have := wt_mem hc; omega
 ·have := wt_mem hc; omega
theorem few_tot (N : Nat) (hN : 5000 < N) {m : DMemory} {roots : List DValue} (hb : Bnd 140737488355328 m roots) : Sat (r19_Few_O N m roots) fun b => b = true → W6 m roots := by
 have hy := hb.young; have ho := hb.old; have hr := hb.roots
 have old : ∀ p : Nat, p ≤ 300000000000000 → (p ≤ 600 → p = roots.length + wt m.Young) → Sat (r19_Few_j5 N m (p : Int)) fun b => b = true → W6 m roots := by
  intro p hp hY
  unfold r19_Few_j5
  refine loop_dec (fun f (s : Nat × Nat) => r19_Few_l26 N m f (s.1 : Int) (s.2 : Int)) (fun s => 700 - s.1) (fun s => s.1 ≤ 300000000000000 ∧ s.2 ≤ m.Old.length ∧ (s.1 ≤ 600 → s.1 = roots.length + wt m.Young + wt (m.Old.take s.2))) _ ?_ N (p, 0) (by show 700 - p < N; omega) ⟨hp, Nat.zero_le _, fun h => by have := hY h; simp [wt]; omega⟩
  rintro f ⟨p, i⟩ ⟨h1, h2, h3⟩ go
  show Sat (r19_Few_l26 N m (f + 1) (p : Int) (i : Int)) _
  simp only at h1 h2 h3
  rw [r19_Few_l26_s]
  have fin : (i = m.Old.length ∨ 600 < p) → Sat (r19_Few_j24 N (p : Int)) fun b => b = true → W6 m roots := fun hh => sat_some fun hb2 => by
   have hp6 : (p : Int) ≤ 600 := of_decide_eq_true hb2
   have h4 := h3 (by omega)
   have hi : i = m.Old.length := by omega
   subst hi
   rw [List.take_length] at h4
   exact (show roots.length + wt m.Young + wt m.Old ≤ 600 by omega)
  by_cases hi : i < m.Old.length
  ·rw [lt_t (by omega), ct, bs]
   refine sat_dec (fun h6 => ?_) fun h6 => fin (.inr (by omega))
   have hc := hb.cells m.Old[i] (by simp)
   rw [r64 (a := (p : Int) + 1) (by omega) (by omega), getE_n hi, bs, r64 (a := (p : Int) + 1 + (m.Old[i].Slots.length : Int)) (by omega) (by omega), bs, r64 (a := (p : Int) + 1 + (m.Old[i].Slots.length : Int) + (m.Old[i].More.length : Int)) (by omega) (by omega), r64 (a := (i : Int) + 1) (by omega) (by omega)]
   have hg := go (p + 1 + m.Old[i].Slots.length + m.Old[i].More.length, i + 1) (by show 700 - (p + 1 + m.Old[i].Slots.length + m.Old[i].More.length) < 700 - p; omega) ⟨by show p + 1 + m.Old[i].Slots.length + m.Old[i].More.length ≤ 300000000000000; omega, hi, fun h7 => by
    simp only at h7 ⊢
    have := h3 (by omega)
    rw [wt_take hi]; omega⟩
   simpa using hg
  ·rw [lt_f (by omega), cf, bs, cf]
   exact fin (.inl (by omega))
 unfold r19_Few_O
 refine loop_dec (fun f (s : Nat × Nat) => r19_Few_l7 N m f (s.1 : Int) (s.2 : Int)) (fun s => 700 - s.1) (fun s => s.1 ≤ 300000000000000 ∧ s.2 ≤ m.Young.length ∧ (s.1 ≤ 600 → s.1 = roots.length + wt (m.Young.take s.2))) _ ?_ N (roots.length, 0) (by show 700 - roots.length < N; omega) ⟨by show roots.length ≤ 300000000000000; omega, Nat.zero_le _, fun h => by simp [wt]⟩
 rintro f ⟨p, i⟩ ⟨h1, h2, h3⟩ go
 show Sat (r19_Few_l7 N m (f + 1) (p : Int) (i : Int)) _
 simp only at h1 h2 h3
 rw [r19_Few_l7_s]
 by_cases hi : i < m.Young.length
 ·rw [lt_t (by omega), ct, bs]
  refine sat_dec (fun h6 => ?_) fun h6 => old p h1 fun h7 => absurd h7 (by omega)
  have hc := hb.cells m.Young[i] (by simp)
  rw [r64 (a := (p : Int) + 1) (by omega) (by omega), getE_n hi, bs, r64 (a := (p : Int) + 1 + (m.Young[i].Slots.length : Int)) (by omega) (by omega), bs, r64 (a := (p : Int) + 1 + (m.Young[i].Slots.length : Int) + (m.Young[i].More.length : Int)) (by omega) (by omega), r64 (a := (i : Int) + 1) (by omega) (by omega)]
  have hg := go (p + 1 + m.Young[i].Slots.length + m.Young[i].More.length, i + 1) (by show 700 - (p + 1 + m.Young[i].Slots.length + m.Young[i].More.length) < 700 - p; omega) ⟨by show p + 1 + m.Young[i].Slots.length + m.Young[i].More.length ≤ 300000000000000; omega, hi, fun h7 => by
   simp only at h7 ⊢
   have := h3 (by omega)
   rw [wt_take hi]; omega⟩
  simpa using hg
 ·rw [lt_f (by omega), cf, bs, cf]
  have hie : i = m.Young.length := by omega
  subst hie
  refine old p h1 fun h7 => ?_
  have := h3 h7
  rw [List.take_length] at this
  exact this
end Go.Proofs.YtmbaennilhdieaaGreat
/- Plain: cleaned weak maps, bare registries, equal values. -/
namespace Go.Proofs.YtmbaennilhdieaaGreat
open Go.RowKit
def cleanL (p : Int → Bool) : List DValue → List DValue
 | k :: v :: r => (bif p k.N then [k, v] else []) ++ cleanL p r
 | _ => []
theorem cleanL_len (p : Int → Bool) : ∀ l : List DValue, (cleanL p l).length ≤ l.length
 | [] => by simp [cleanL]
 | [_] => by simp [cleanL]
 | k :: v :: r => by
  have := cleanL_len p r
  unfold cleanL
  cases p k.N <;> simp <;> omega
theorem cleanL_mem {p : Int → Bool} {x : DValue} : ∀ {l : List DValue}, x ∈ cleanL p l → x ∈ l
 | [], h => by simp [cleanL] at h
 | [_], h => by simp [cleanL] at h
 | k :: v :: r, h => by
  unfold cleanL at h
  rcases List.mem_append.1 h with h | h
  ·cases hp : p k.N with
   | false => rw [hp] at h; cases h
   | true => rw [hp] at h; simp at h; rcases h with h | h <;> simp [h]
  ·have := cleanL_mem h; simp [this]
def cleanW (N : Nat) (l : List Int) (c : DCell) : DCell := bif isWM N c then ⟨c.Kind, c.Shape, c.Flags, c.Age, c.Slots, cleanL (fun x => decide (x ∈ l)) c.More⟩ else c
theorem kept_body (N : Nat) (hN : 5000 < N) (l : List Int) (hl : l.length ≤ 5000) (y : DCell) (k v : DValue) (s : List DValue) (hs : s.length ≤ 5000) : liftR (fun x st => weak_kept_b12 N (fun x => weak_Clean_c1_O N x l) y x st) (k, v) (none, s) = some (true, (none, s ++ (bif decide (k.N ∈ l) then [k, v] else []))) := by
 unfold liftR weak_kept_b12 weak_Clean_c1_O
 simp only [bs, contains_prog N hN l hl]
 cases decide (k.N ∈ l)
 ·simp only [cf, List.append_nil]; rfl
 ·simp only [ct]
  rw [rF (by simp; omega)]
  rfl
theorem kept_loop (N : Nat) (hN : 5000 < N) (l : List Int) (hl : l.length ≤ 5000) (y c : DCell) (hc : c.More.length ≤ 1000) (he : c.More.length % 2 = 0) : ∀ (m i : Nat) (s : List DValue), c.More.length < m + i → i ≤ c.More.length → i % 2 = 0 → s.length ≤ i → weak_entries_c1_l4 N (liftR (fun x st => weak_kept_b12 N (fun x => weak_Clean_c1_O N x l) y x st)) c m (i : Int) (none, s) = some (none, s ++ cleanL (fun x => decide (x ∈ l)) (c.More.drop i))
 | 0, i, s, h, h2, _, _ => by omega
 | m + 1, i, s, h, h2, h3, h4 => by
  rw [weak_entries_c1_l4_s, r64 (a := (i : Int) + 1) (by omega) (by omega)]
  by_cases hi : i < c.More.length
  ·have hi1 : i + 1 < c.More.length := by omega
   have hl1 : getE c.More ((i : Int) + 1) = some c.More[i + 1] := by
    have := getE_n hi1
    simpa using this
   rw [lt_t (by omega), ct, getE_n hi, bs, r64 (a := (i : Int) + 1) (by omega) (by omega), hl1, bs, kept_body N hN l hl y _ _ s (by omega), bs]
   simp only [nt, cf]
   rw [r64 (by omega) (by omega)]
   have hlen : (s ++ (bif decide (c.More[i].N ∈ l) then [c.More[i], c.More[i + 1]] else [])).length ≤ i + 2 := by
    cases decide (c.More[i].N ∈ l) <;> simp <;> omega
   have := kept_loop N hN l hl y c hc he m (i + 2) _ (by omega) (by omega) (by omega) hlen
   simp only [Int.natCast_add, Int.cast_ofNat_Int] at this
   rw [this, List.drop_eq_getElem_cons hi, List.drop_eq_getElem_cons hi1, List.append_assoc]; rfl
  ·rw [lt_f (by omega), cf, List.drop_eq_nil_of_le (by omega)]
   simp [cleanL]
theorem clean_prog (N : Nat) (hN : 5000 < N) (l : List Int) (hl : l.length ≤ 5000) (c : DCell) (hS : c.Slots.length ≤ 600) (hc : c.More.length ≤ 600) : weak_Clean_O N c l = some (bif isWM N c then cleanW N l c else zeroC) := by
 obtain ⟨-, h1, h2⟩ := is_ref N (by omega) c (by omega) (by omega)
 unfold weak_Clean_O weak_kept_O weak_entries_c1_O cleanW
 rw [h1, bs]
 cases hw : isWM N c
 ·rfl
 ·have e : weak_entries_O N c = some () := rfl
  have := kept_loop N hN l hl c c (by omega) (h2 hw) N 0 [] (by omega) (by omega) rfl (by simp)
  simp only [nt, cf, ct, e, bs, copy_spec N c ⟨hS, hc⟩]
  have h3 : weak_entries_c1_l4 N (liftR (fun x st => weak_kept_b12 N (fun x => weak_Clean_c1_O N x l) c x st)) c N 0 (none, []) = some (none, [] ++ cleanL (fun x => decide (x ∈ l)) (c.More.drop 0)) := this
  rw [h3, bs]
  rfl
theorem cleanW_len (N : Nat) (l : List Int) (c : DCell) : (cleanW N l c).Slots.length = c.Slots.length ∧ (cleanW N l c).More.length ≤ c.More.length := by
 unfold cleanW
 cases isWM N c
 ·exact ⟨rfl, Nat.le_refl _⟩
 ·exact ⟨rfl, cleanL_len _ _⟩
theorem cleanW_mem {N : Nat} {l : List Int} {c : DCell} {v : DValue} (h : v ∈ (cleanW N l c).Slots ++ (cleanW N l c).More) : v ∈ c.Slots ++ c.More := by
 unfold cleanW at h
 cases hw : isWM N c
 ·rw [hw] at h; exact h
 ·rw [hw] at h
  rcases List.mem_append.1 h with h | h
  ·exact List.mem_append_left _ h
  ·exact List.mem_append_right _ (cleanL_mem h)
def isFR (N : Nat) (c : DCell) : Bool := decide (c.Kind = 10) && (r15_Right_O N c).getD false
def bareC (N : Nat) (c : DCell) : DCell := bif isFR N c then ⟨c.Kind, c.Shape, c.Flags, c.Age, c.Slots, c.More.take 1⟩ else c
def bareM (N : Nat) (m : DMemory) : DMemory := ⟨m.Young.map (bareC N), m.Old.map (bareC N)⟩
theorem in64_of {m : DMemory} {roots : List DValue} (hs : Small m roots) {x : Int} (h : hasM m x = true) : in64 x := by
 have h2 := hasM_pos h
 have h3 := hasM_le hs h
 unfold in64; omega
theorem opens_mono {p q : Int → Bool} (hpq : ∀ x, p x = true → q x = true) {x : Int} : ∀ {l : List DValue}, x ∈ opens p l → x ∈ opens q l
 | [], h => by simp [opens] at h
 | [_], h => by simp [opens] at h
 | k :: v :: r, h => by
  rw [opens_cons] at h ⊢
  rcases List.mem_append.1 h with h | h
  ·refine List.mem_append_left _ ?_
   cases hk : p k.N with
   | false => rw [hk, Bool.and_false] at h; cases h
   | true => rw [hk] at h; rw [hpq _ hk]; exact h
  ·exact List.mem_append_right _ (opens_mono hpq h)
end Go.Proofs.YtmbaennilhdieaaGreat
/- Plain: Alike holds where both sides are traversed alike and hold the same cells. -/
namespace Go.Proofs.YtmbaennilhdieaaGreat
open Go.RowKit
end Go.Proofs.YtmbaennilhdieaaGreat
/- Plain: what a collection makes of cells. -/
namespace Go.Proofs.YtmbaennilhdieaaGreat
open Go.RowKit
def zeroV : DValue := ⟨0, 0, ⟨#[]⟩⟩
def keptE (l : List Int) : List DValue → List DValue
 | t :: h :: k :: s :: r => (bif decide (t.N ∈ l) then [t, h, (bif decide (k.Kind = 7) && !decide (k.N ∈ l) then zeroV else k), s] else []) ++ keptE l r
 | _ => []
def toldE (l : List Int) (cb : DValue) : List DValue → List DValue
 | t :: h :: _ :: s :: r => (bif decide (t.N ∈ l) then [] else [cb, h, s]) ++ toldE l cb r
 | _ => []
theorem keptE_cons (l : List Int) (t h k s : DValue) (r : List DValue) : keptE l (t :: h :: k :: s :: r) = (bif decide (t.N ∈ l) then [t, h, (bif decide (k.Kind = 7) && !decide (k.N ∈ l) then zeroV else k), s] else []) ++ keptE l r := Eq.trans rfl rfl
theorem toldE_cons (l : List Int) (cb t h k s : DValue) (r : List DValue) : toldE l cb (t :: h :: k :: s :: r) = (bif decide (t.N ∈ l) then [] else [cb, h, s]) ++ toldE l cb r := Eq.trans rfl rfl
theorem cleanL_cons (p : Int → Bool) (k v : DValue) (r : List DValue) : cleanL p (k :: v :: r) = (bif p k.N then [k, v] else []) ++ cleanL p r := Eq.trans rfl rfl
theorem kt_len (l : List Int) (cb : DValue) : ∀ xs : List DValue, (keptE l xs).length + (toldE l cb xs).length ≤ xs.length
 | [] => by simp [keptE, toldE]
 | [_] => by simp [keptE, toldE]
 | [_, _] => by simp [keptE, toldE]
 | [_, _, _] => by simp [keptE, toldE]
 | t :: h :: k :: s :: r => by
  have := kt_len l cb r
  unfold keptE toldE
  cases decide (t.N ∈ l) <;> simp <;> omega
def cleanF (l : List Int) (c : DCell) : DCell × List DValue := (⟨c.Kind, c.Shape, c.Flags, c.Age, c.Slots, c.More.take 1 ++ keptE l (c.More.drop 1)⟩, toldE l (c.More.headD zeroV) (c.More.drop 1))
theorem four {l : List DValue} (h : 4 ≤ l.length) : ∃ t a k s r, l = t :: a :: k :: s :: r := by
 match l, h with
 | t :: a :: k :: s :: r, _ => exact ⟨t, a, k, s, r, rfl⟩
theorem fin_loop (N : Nat) (hN : 5000 < N) (l : List Int) (p : List (Int × Bool)) (hp : ∀ x, (lk p x).getD false = decide (x ∈ l)) (c y : DCell) (cb : DValue) (hcb : c.More[0]? = some cb) (hc : c.More.length ≤ 1000) : ∀ (m i : Nat) (o t : List DValue), c.More.length < m + i → i ≤ c.More.length → (c.More.length - i) % 4 = 0 → o.length ≤ i → t.length ≤ i → finreg_entries_c1_l4 N (liftR (fun x st => finreg_Clean_b28 N c p y x st)) c m (i : Int) (none, (o, t)) = some (none, (o ++ keptE l (c.More.drop i), t ++ toldE l cb (c.More.drop i)))
 | 0, i, o, t, h, h2, _, _, _ => by omega
 | m + 1, i, o, t, h, h2, h3, h4, h5 => by
  rw [finreg_entries_c1_l4_s, r64 (a := (i : Int) + 4) (by omega) (by omega)]
  by_cases hi : i + 4 ≤ c.More.length
  ·obtain ⟨v1, v2, v3, v4, r, hd⟩ := four (l := c.More.drop i) (by rw [List.length_drop]; omega)
   have hd4 : c.More.drop (i + 4) = r := by rw [← List.drop_drop, hd]; rfl
   have hx : (c.More.drop (i : Int).toNat).take (((i : Int) + 4).toNat - (i : Int).toNat) = [v1, v2, v3, v4] := by
    rw [Int.toNat_natCast, show ((i : Int) + 4).toNat - i = 4 by omega, hd]; rfl
   have h0 : getE c.More 0 = some cb := by
    have := getE_nat c.More 0
    rw [hcb] at this; exact this
   have e0 : getE [v1, v2, v3, v4] 0 = some v1 := rfl
   have e1 : getE [v1, v2, v3, v4] 1 = some v2 := rfl
   have e2 : getE [v1, v2, v3, v4] 2 = some v3 := rfl
   have e3 : getE [v1, v2, v3, v4] 3 = some v4 := rfl
   rw [le_t (by omega), ct, r64 (by omega) (by omega), r64 (by omega) (by omega), req_t ⟨by omega, by omega, by omega, by omega⟩, hx]
   have hb : liftR (fun x st => finreg_Clean_b28 N c p y x st) ((i : Int), [v1, v2, v3, v4]) (none, (o, t)) = some (true, (none, (o ++ (bif decide (v1.N ∈ l) then [v1, v2, (bif decide (v3.Kind = 7) && !decide (v3.N ∈ l) then zeroV else v3), v4] else []), t ++ (bif decide (v1.N ∈ l) then [] else [cb, v2, v4])))) := by
    unfold liftR finreg_Clean_b28
    simp only [e0, e1, e2, e3, bs, hp, h0]
    unfold finreg_Clean_j45
    simp only [e0, e1, e2, e3, bs]
    cases decide (v1.N ∈ l)
    ·simp only [nf, ct, cf, List.append_nil]
     rw [rF (by simp; omega)]; rfl
    ·simp only [nt, ct, cf, List.append_nil]
     rw [rF (by simp; omega), rF (by simp; omega)]
     cases decide (v3.Kind = 7) <;> cases decide (v3.N ∈ l) <;> rfl
   rw [hb, bs]
   simp only [nt, cf]
   rw [r64 (by omega) (by omega)]
   have := fin_loop N hN l p hp c y cb hcb hc m (i + 4) (o ++ (bif decide (v1.N ∈ l) then [v1, v2, (bif decide (v3.Kind = 7) && !decide (v3.N ∈ l) then zeroV else v3), v4] else [])) (t ++ (bif decide (v1.N ∈ l) then [] else [cb, v2, v4])) (by omega) hi (by omega) (by cases decide (v1.N ∈ l) <;> simp <;> omega) (by cases decide (v1.N ∈ l) <;> simp <;> omega)
   rw [show (((i + 4 : Nat)) : Int) = (i : Int) + 4 by omega] at this
   rw [this, hd4, hd, List.append_assoc, List.append_assoc]; rfl
  ·rw [le_f (by omega), cf, List.drop_eq_nil_of_le (by omega)]
   simp [keptE, toldE]
theorem isFR_ok (N : Nat) (hN : 2000 < N) (c : DCell) (hS : c.Slots.length ≤ 1000) (hc : c.More.length ≤ 1000) : finreg_is_O N c = some (isFR N c) ∧ (isFR N c = true → 1 ≤ c.More.length ∧ (c.More.length - 1) % 4 = 0) := by
 obtain ⟨b, hb, hb2⟩ := right_tot N hN c hS hc
 unfold finreg_is_O isFR
 rw [right_eq N hN c hS hc, hb]
 refine ⟨by cases decide (c.Kind = 10) <;> cases b <;> rfl, fun h => ?_⟩
 rw [Bool.and_eq_true, decide_eq_true_eq] at h
 exact (hb2 h.2).2 h.1
theorem finclean_prog (N : Nat) (hN : 5000 < N) (l : List Int) (hl : l.length ≤ 5000) (c : DCell) (hS : c.Slots.length ≤ 600) (hc : c.More.length ≤ 600) : finreg_Clean_O N c l = some (bif isFR N c then cleanF l c else (zeroC, [])) := by
 obtain ⟨h1, h2⟩ := isFR_ok N (by omega) c (by omega) (by omega)
 unfold finreg_Clean_O
 rw [h1, bs]
 cases hw : isFR N c
 ·rfl
 obtain ⟨g1, g2⟩ := h2 hw
 simp only [nt, cf, ct]
 have hcb : c.More[0]? = some (c.More.headD zeroV) := by
  cases hm : c.More with
  | nil => rw [hm] at g1; simp at g1
  | cons a r => rfl
 apply Sat.eq
 refine loop_inv (fun k i (s : List (Int × Bool)) => finreg_Clean_l15 N l c k (i : Int) s) l.length (fun i s => ∀ x, (lk s x).getD false = decide (x ∈ l.take i)) _ ?_ ?_ N 0 [] (by omega) (by omega) (fun x => by simp; rfl)
 ·intro k i s hi h3 go
  show Sat (finreg_Clean_l15 N l c (k + 1) (i : Int) s) _
  rw [finreg_Clean_l15_s, lt_t (by omega), ct, getE_n hi, bs, r64 (by omega) (by omega)]
  refine go _ fun x => ?_
  rw [lk_up, take_succ_get hi]
  by_cases e : l[i] = x
  ·rw [if_pos e, decide_eq_true (by simp [e])]; rfl
  ·rw [if_neg e, h3 x]
   by_cases hm : x ∈ l.take i
   ·rw [decide_eq_true hm, decide_eq_true (List.mem_append_left _ hm)]
   ·rw [decide_eq_false hm, decide_eq_false (by simp only [List.mem_append, List.mem_singleton]; exact fun h => h.elim hm fun h => e h.symm)]
 ·intro k s h3
  show Sat (finreg_Clean_l15 N l c (k + 1) _ s) _
  rw [List.take_length] at h3
  rw [finreg_Clean_l15_s, lt_f (by omega), cf]
  unfold finreg_Clean_j13 finreg_bare_O slices_Clone_O finreg_entries_O finreg_entries_c1_O
  have h0 : getE c.More 0 = some (c.More.headD zeroV) := by
   have := getE_nat c.More 0
   rw [hcb] at this; exact this
  rw [rF (by simp; omega), bs, h0, bs, bs, bs]
  have := fin_loop N hN l s h3 c ⟨c.Kind, c.Shape, c.Flags, c.Age, [] ++ c.Slots, [c.More.headD zeroV]⟩ _ hcb (by omega) N 1 [c.More.headD zeroV] [] (by omega) g1 g2 (by simp) (by simp)
  have this' : finreg_entries_c1_l4 N (liftR (fun x st => finreg_Clean_b28 N c s ⟨c.Kind, c.Shape, c.Flags, c.Age, [] ++ c.Slots, [c.More.headD zeroV]⟩ x st)) c N 1 (none, ([c.More.headD zeroV], [])) = _ := this
  rw [this', bs]
  refine sat_some ?_
  have ht : c.More.take 1 = [c.More.headD zeroV] := by
   cases hm : c.More with
   | nil => rw [hm] at g1; simp at g1
   | cons a r => rfl
  unfold cleanF
  rw [ht]; rfl
end Go.Proofs.YtmbaennilhdieaaGreat
/- Plain: the new order of a major collection. -/
namespace Go.Proofs.YtmbaennilhdieaaGreat
open Go.RowKit
def evenB (a : Int) : Bool := decide (a.tmod 2 = 0)
def oddB (a : Int) : Bool := decide (a.tmod 2 = 1)
def newOrd (live : List Int) : List Int := live.filter evenB ++ live.filter oddB
theorem filter_at {p : Int → Bool} : ∀ {l : List Int} {i : Nat} (hi : i < l.length), p l[i] = true → (l.filter p)[((l.take i).filter p).length]? = some l[i]
 | x :: l, 0, hi, h => by
  simp only [List.getElem_cons_zero] at h
  simp [h]
 | x :: l, i + 1, hi, h => by
  simp only [List.getElem_cons_succ] at h
  have ih := filter_at (l := l) (i := i) (by simpa using hi) h
  rw [List.take_succ_cons]
  cases hx : p x with
  | true => simp only [List.filter_cons, hx, if_true, List.length_cons, List.getElem?_cons_succ, List.getElem_cons_succ]; exact ih
  | false => simp only [List.filter_cons, hx, Bool.false_eq_true, if_false, List.getElem_cons_succ]; exact ih
theorem filter_next {p : Int → Bool} {l : List Int} {i : Nat} (hi : i < l.length) : ((l.take (i + 1)).filter p).length = ((l.take i).filter p).length + (bif p l[i] then 1 else 0) := by
 rw [take_succ_get hi, List.filter_append, List.length_append]
 cases h : p l[i] <;> simp [h]
theorem order_pass (N : Nat) {σ : Type} (φ : Int × Int → σ → Option (Option Exit × σ)) (live : List Int) (hl : live.length ≤ 2000) (hN : 5000 < N) (kb : Int → Int → Option Exit × σ → Option (Option Exit × σ)) (b : Int) (p : Int → Bool) (hp : ∀ a, p a = decide (a.tmod 2 = b)) (p6 : Int) (h6 : 0 ≤ p6 ∧ p6 ≤ 2) (n0 : Nat) (hn0 : n0 ≤ 2000)
  (Inv : Nat → σ → Prop) (R : Option Exit × σ → Prop)
  (hstep : ∀ i (hi : i < live.length) s, p live[i] = true → Inv (n0 + ((live.take i).filter p).length) s → Sat (φ (((n0 + ((live.take i).filter p).length : Nat) : Int), live[i]) s) fun r => r.1 = none ∧ Inv (n0 + ((live.take i).filter p).length + 1) r.2)
  (hk : ∀ s, Inv (n0 + (live.filter p).length) s → Sat (kb ((n0 + (live.filter p).length : Nat) : Int) (p6 + 1) (none, s)) R) (s : σ) (hs : Inv n0 s) : Sat (major_order_c1_l13 N kb (liftR φ) b p6 live N (n0 : Int) 0 (none, s)) R := by
 have hfl : ∀ i, ((live.take i).filter p).length ≤ 2000 := fun i => Nat.le_trans (List.length_filter_le _ _) (by rw [List.length_take]; omega)
 refine loop_inv (fun k i (st : Nat × σ) => major_order_c1_l13 N kb (liftR φ) b p6 live k (st.1 : Int) (i : Int) (none, st.2)) live.length (fun i st => st.1 = n0 + ((live.take i).filter p).length ∧ Inv st.1 st.2) _ ?_ ?_ N 0 (n0, s) (by omega) (by omega) ⟨by simp, hs⟩
 ·rintro k i ⟨n, st⟩ hi ⟨h1, h2⟩ go
  simp only at h1 h2
  have hb := hfl i
  show Sat (major_order_c1_l13 N kb (liftR φ) b p6 live (k + 1) (n : Int) (i : Int) (none, st)) _
  have hnx := filter_next (p := p) hi
  rw [major_order_c1_l13_s, lt_t (by omega), ct, getE_n hi, bs, ← hp]
  unfold major_order_c1_j18
  rw [r64 (a := (i : Int) + 1) (by omega) (by omega)]
  cases hq : p live[i]
  ·simp only [nf, ct]
   rw [hq] at hnx
   have hg := go (n, st) ⟨by show n = _; rw [hnx]; exact h1, h2⟩
   first | rw [r64 (a := (i : Int) + 1) (by omega) (by omega)] | skip
   exact hg
  ·simp only [nt, cf]
   rw [hq] at hnx
   obtain ⟨⟨e, s'⟩, g1, g2, g3⟩ := hstep i hi st hq (by rw [← h1]; exact h2)
   simp only at g2 g3
   subst g2
   have hf : liftR φ ((n : Int), live[i]) (none, st) = some (true, (none, s')) := by
    unfold liftR
    simp only
    rw [h1, g1]; rfl
   rw [hf, bs]
   simp only [nt, cf]
   rw [r64 (a := (n : Int) + 1) (by omega) (by omega)]
   have hg := go (n + 1, s') ⟨by show n + 1 = _; rw [hnx]; show n + 1 = _ + (_ + 1); omega, by show Inv (n + 1) s'; rw [h1]; exact g3⟩
   first | rw [r64 (a := (i : Int) + 1) (by omega) (by omega)] | skip
   exact hg
 ·rintro k ⟨n, st⟩ ⟨h1, h2⟩
  simp only [List.take_length] at h1 h2
  show Sat (major_order_c1_l13 N kb (liftR φ) b p6 live (k + 1) (n : Int) _ (none, st)) _
  rw [major_order_c1_l13_s, lt_f (by omega), cf]
  unfold major_order_c1_j9
  rw [r64 (by omega) (by omega), h1]
  exact hk st (by rw [← h1]; exact h2)
theorem order_loop (N : Nat) {σ : Type} (φ : Int × Int → σ → Option (Option Exit × σ)) (live : List Int) (hl : live.length ≤ 2000) (hN : 5000 < N)
  (Inv : Nat → σ → Prop) (hstep : ∀ n a s, (newOrd live)[n]? = some a → Inv n s → Sat (φ ((n : Int), a) s) fun r => r.1 = none ∧ Inv (n + 1) r.2) (s : σ) (hs : Inv 0 s) : Sat (major_order_c1_O N live (liftR φ) (none, s)) fun r => r.1 = none ∧ Inv (newOrd live).length r.2 := by
 obtain ⟨k, rfl⟩ : ∃ k, N = k + 3 := ⟨N - 3, by omega⟩
 have hev : (live.filter evenB).length ≤ 2000 := Nat.le_trans (List.length_filter_le _ _) hl
 unfold major_order_c1_O
 rw [major_order_c1_l4_s, show ((([0, 1] : List Int).length : Int)) = 2 from rfl, lt_t (by omega), ct, show getE ([0, 1] : List Int) 0 = some 0 from rfl, bs]
 refine order_pass (k + 3) φ live hl (by omega) _ 0 evenB (fun _ => rfl) 0 (by omega) 0 (by omega) Inv _ (fun i hi st hp hi2 => ?_) (fun st hst => ?_) s hs
 ·refine hstep _ _ _ ?_ hi2
  unfold newOrd
  rw [List.getElem?_append_left]
  ·rw [Nat.zero_add]; exact filter_at hi hp
  ·have := (List.getElem?_eq_some_iff.1 (filter_at hi hp)).1; omega
 ·rw [major_order_c1_l4_s, show ((([0, 1] : List Int).length : Int)) = 2 from rfl, lt_t (by omega), ct, show getE ([0, 1] : List Int) (0 + 1) = some 1 from rfl, bs]
  refine order_pass (k + 3) φ live hl (by omega) _ 1 oddB (fun _ => rfl) (0 + 1) (by omega) (0 + (live.filter evenB).length) (by omega) Inv _ (fun i hi st hp hi2 => ?_) (fun st hst => ?_) st hst
  ·refine hstep _ _ _ ?_ hi2
   unfold newOrd
   rw [List.getElem?_append_right (by omega), show 0 + (live.filter evenB).length + ((live.take i).filter oddB).length - (live.filter evenB).length = ((live.take i).filter oddB).length by omega]
   exact filter_at hi hp
  ·rw [major_order_c1_l4_s, show ((([0, 1] : List Int).length : Int)) = 2 from rfl, lt_f (by omega), cf]
   refine sat_some ⟨rfl, ?_⟩
   unfold newOrd
   rw [List.length_append]
   have e : 0 + (live.filter evenB).length + (live.filter oddB).length = (live.filter evenB).length + (live.filter oddB).length := by omega
   rw [← e]; exact hst
end Go.Proofs.YtmbaennilhdieaaGreat
/- Plain: when two sides correspond. -/
namespace Go.Proofs.YtmbaennilhdieaaGreat
open Go.RowKit
def corr (ha hb : Int → Bool) (A B : List Int) (v w : DValue) : Bool :=
 bif !hasB v || !hasB w then decide (v = w)
 else decide (v.Kind = w.Kind) && (v.S.toList == w.S.toList) && (bif !decide (v.N ∈ A) || !decide (w.N ∈ B) then !decide (v.N ∈ A) && !decide (w.N ∈ B) && (ha v.N == hb w.N) else decide (A.idxOf v.N = B.idxOf w.N))
def corrL (ha hb : Int → Bool) (A B : List Int) (x y : List DValue) : Bool := decide (x.length = y.length) && (x.zip y).all fun p => corr ha hb A B p.1 p.2
def corrC (ha hb : Int → Bool) (A B : List Int) (c d : DCell) : Bool := decide (c.Kind = d.Kind) && decide (c.Shape = d.Shape) && decide (c.Flags = d.Flags) && corrL ha hb A B c.Slots d.Slots && corrL ha hb A B c.More d.More
def alikeS (N : Nat) (a : DMemory) (x : List DValue) (A : List Int) (b : DMemory) (y : List DValue) (B : List Int) : Bool :=
 decide (A.length = B.length) && corrL (hasM a) (hasM b) A B x y && (A.zip B).all fun p => corrC (hasM a) (hasM b) A B (cleanW N A (atM a p.1)) (cleanW N B (atM b p.2))
def PosM (kv : List (Int × Int)) (l : List Int) : Prop := ∀ x, lk kv x = if x ∈ l then some (l.idxOf x : Int) else none
structure SideOk (m : DMemory) (x : List DValue) (A : List Int) : Prop where
 small : Small m x
 w64 : W64 m
 x64 : ∀ v ∈ x, in64 v.N
 len : A.length ≤ 1200
 nd : A.Nodup
 has : ∀ a ∈ A, hasM m a = true
end Go.Proofs.YtmbaennilhdieaaGreat
/- Plain: the reference's Alike. -/
namespace Go.Proofs.YtmbaennilhdieaaGreat
open Go.RowKit
theorem hasB_kind {v w : DValue} (h : v.Kind = w.Kind) : hasB v = hasB w := by unfold hasB; rw [h]
def keepL (p : Int → Bool) : List DValue → List Bool
 | k :: _ :: r => p k.N :: keepL p r
 | _ => []
end Go.Proofs.YtmbaennilhdieaaGreat
/- Plain: the major collection, as a function. -/
namespace Go.Proofs.YtmbaennilhdieaaGreat
open Go.RowKit
def addrC (c : DCell) : List Int := leadsL c ++ weaklyL c
def rightC (N : Nat) (c : DCell) : Bool := (r15_Right_O N c).getD false
theorem addrC_len (c : DCell) : (addrC c).length ≤ c.Slots.length + 2 * c.More.length := by
 have h1 := leadsL_len c
 have h2 := weaklyL_len c
 unfold addrC; rw [List.length_append]; omega
theorem flat_len : ∀ l : List DCell, (l.flatMap addrC).length ≤ 2 * wt l
 | [] => by simp [wt]
 | c :: l => by
  have h1 := flat_len l
  have h2 := addrC_len c
  rw [List.flatMap_cons, List.length_append, wt]; omega
theorem none_check (N : Nat) (m : DMemory) (l : List Int) (hl : l.length < N) (hl2 : l.length ≤ 5000) (h64 : ∀ x ∈ l, in64 x) : slices_ContainsFunc_O N l (fun x => major_check_c1_O N x m) = some (!wholeB m l) := by
 have key : ∀ k i : Nat, l.length < k + i → i ≤ l.length → Sat (slices_IndexFunc_l3 N (fun x => major_check_c1_O N x m) l k (i : Int)) fun r => decide (0 ≤ r) = !(l.drop i).all (hasM m) := by
  intro k
  induction k with
  | zero => intro i h1 h2; omega
  | succ k ih =>
   intro i h1 h2
   rw [slices_IndexFunc_l3_s]
   by_cases hi : i < l.length
   ·have h3 := ih (i + 1) (by omega) hi
    rw [show (((i + 1 : Nat)) : Int) = (i : Int) + 1 by omega] at h3
    rw [lt_t (by omega), ct, getE_n hi, bs, List.drop_eq_getElem_cons hi, List.all_cons]
    unfold major_check_c1_O
    rw [has_prog N m _ (h64 _ (List.getElem_mem _)), bs, bs, r64 (by omega) (by omega)]
    cases hasM m l[i]
    ·exact sat_some (by rw [decide_eq_true (by omega)]; rfl)
    ·exact h3
   ·rw [lt_f (by omega), cf, List.drop_eq_nil_of_le (by omega)]
    exact sat_some rfl
 obtain ⟨r, h1, h2⟩ := key N 0 (by omega) (by omega)
 have h1' : slices_IndexFunc_l3 N (fun x => major_check_c1_O N x m) l N 0 = some r := h1
 unfold slices_ContainsFunc_O slices_IndexFunc_O
 rw [h1', bs, h2]
 unfold wholeB
 simp
def checkM (N : Nat) (m : DMemory) (roots : List DValue) : Int :=
 bif (m.Young ++ m.Old).all (rightC N) then bif wholeB m ((m.Young ++ m.Old).flatMap addrC ++ addrL roots) then 0 else 50 else 51
theorem check_prog (N : Nat) (hN : 5000 < N) {m : DMemory} {roots : List DValue} (hs : Small m roots) (ht : Wtd m roots) (hw : W64 m) (hr : ∀ v ∈ roots, in64 v.N) : major_check_O N m roots = some (checkM N m roots) := by
 have hle := ht.le
 have h1 := hs.young; have h2 := hs.old; have h3 := hs.roots
 have a64 : ∀ (l : List DCell), (∀ c ∈ l, c ∈ m.Young ++ m.Old) → ∀ x ∈ l.flatMap addrC, in64 x := fun l hl x hx => by
  obtain ⟨c, hc, hx⟩ := List.mem_flatMap.1 hx
  obtain ⟨⟨-, g1⟩, -, g2⟩ := weakly_ok hs hw (hl c hc)
  exact (List.mem_append.1 hx).elim (g1 x) (g2 x)
 have r64' : ∀ x ∈ addrL roots, in64 x := fun x hx => by
  obtain ⟨v, h1, -, rfl⟩ := addrL_mem.1 hx
  exact hr v h1
 have hal : ∀ k, (addrL (roots.take k)).length ≤ roots.length := fun k => by
  unfold addrL; rw [List.length_map]; exact Nat.le_trans (List.length_filter_le _ _) (by rw [List.length_take]; omega)
 -- the roots
 have hroots : ∀ q : List Int, q.length + roots.length ≤ 4800 → (∀ x ∈ q, in64 x) → major_check_j5 N roots m q = some (bif wholeB m (q ++ addrL roots) then 0 else 50) := by
  intro q hq q64
  apply Sat.eq
  unfold major_check_j5
  refine loop_inv (fun k i (s : List Int) => major_check_l40 N roots m k s (i : Int)) roots.length (fun i s => s = q ++ addrL (roots.take i)) _ ?_ ?_ N 0 q (by omega) (by omega) (by simp [addrL])
  ·rintro k i s hi h1 go
   show Sat (major_check_l40 N roots m (k + 1) s (i : Int)) _
   have hnext : q ++ addrL (roots.take (i + 1)) = s ++ addrL [roots[i]] := by rw [take_succ_get hi, addrL_app, h1, List.append_assoc]
   have hsl : s.length ≤ 4800 := by have := hal i; rw [h1, List.length_append]; omega
   rw [major_check_l40_s, lt_t (by omega), ct, getE_n hi, bs, kind_has, bs]
   unfold major_check_j44
   cases hb : hasB roots[i]
   ·rw [cf, r64 (by omega) (by omega)]
    exact go s (by rw [hnext]; simp [addrL, hb])
   ·rw [ct, rF (by simp; omega), r64 (by omega) (by omega)]
    exact go _ (by rw [hnext]; simp [addrL, hb])
  ·rintro k s h1
   show Sat (major_check_l40 N roots m (k + 1) s _) _
   rw [List.take_length] at h1
   have hsl : s.length ≤ 4800 := by have := hal roots.length; rw [List.take_length] at this; rw [h1, List.length_append]; omega
   rw [major_check_l40_s, lt_f (by omega), cf]
   unfold major_check_j38
   rw [none_check N m s (by omega) (by omega) (fun x hx => by rw [h1] at hx; exact (List.mem_append.1 hx).elim (q64 x) (r64' x)), bs, ← h1]
   cases wholeB m s <;> exact sat_some rfl
 -- one row
 have row : ∀ (kb : List Int → Int → Option Int) (p : Int) (l : List DCell) (q : List Int), in64 (p + 1) → l.length ≤ 600 → wt l ≤ 2400 → (∀ c ∈ l, c ∈ m.Young ++ m.Old) → q.length ≤ 5000 → major_check_l17 N kb m p l roots N q 0 = bif l.all (rightC N) then kb (q ++ l.flatMap addrC) (p + 1) else some 51 := by
  intro kb p l q hp hll hl hl2 hq
  have key : ∀ (k i : Nat), l.length < k + i → i ≤ l.length → major_check_l17 N kb m p l roots k (q ++ (l.take i).flatMap addrC) (i : Int) = bif (l.drop i).all (rightC N) then kb (q ++ l.flatMap addrC) (p + 1) else some 51 := by
   intro k
   induction k with
   | zero => intro i h1 h2; omega
   | succ k ih =>
    intro i h4 h5
    have hfl := flat_len (l.take i)
    have hwt : wt (l.take i) ≤ wt l := by
     have := wt_app (l.take i) (l.drop i)
     rw [List.take_append_drop] at this; omega
    by_cases hi : i < l.length
    ·have hm := hl2 l[i] (List.getElem_mem _)
     have hc := hs.cells _ hm
     have hwi := wt_take hi
     have hwt2 : wt (l.take (i + 1)) ≤ wt l := by
      have := wt_app (l.take (i + 1)) (l.drop (i + 1))
      rw [List.take_append_drop] at this; omega
     obtain ⟨b, hb, -⟩ := right_tot N (by omega) l[i] (by omega) (by omega)
     have hrc : rightC N l[i] = b := by unfold rightC; rw [hb]; rfl
     have e1 := leadsL_len l[i]
     have e2 := weaklyL_len l[i]
     have h6 := ih (i + 1) (by omega) hi
     rw [show (((i + 1 : Nat)) : Int) = (i : Int) + 1 by omega] at h6
     rw [major_check_l17_s, lt_t (by omega), ct, getE_n hi, bs, right_eq N (by omega) _ (by omega) (by omega), hb, bs, leads_prog N (by omega) _ (by omega) (by omega), bs, List.length_append, rF (by omega), weakly_prog N (by omega) _ (by omega) (by omega), bs, List.length_append, List.length_append, rF (by omega), r64 (by omega) (by omega)]
     have hap : q ++ (l.take i).flatMap addrC ++ leadsL l[i] ++ weaklyL l[i] = q ++ (l.take (i + 1)).flatMap addrC := by
      rw [take_succ_get hi, List.flatMap_append]
      simp [addrC, List.append_assoc]
     rw [hap, h6, List.drop_eq_getElem_cons hi, List.all_cons, hrc]
     cases b <;> rfl
    ·have e : i = l.length := by omega
     subst e
     rw [major_check_l17_s, lt_f (by omega), cf, List.drop_length, List.take_length]
     unfold major_check_j13
     rw [req_t hp]; rfl
  have := key N 0 (by omega) (by omega)
  simpa using this
 have hwy : wt m.Young ≤ 2400 := by omega
 have hwo : wt m.Old ≤ 2400 := by omega
 have hfy := flat_len m.Young
 have hfo := flat_len m.Old
 obtain ⟨k, rfl⟩ : ∃ k, N = k + 3 := ⟨N - 3, by omega⟩
 unfold major_check_O checkM
 rw [major_check_l8_s, show ((([m.Young, m.Old] : List (List DCell)).length : Int)) = 2 from rfl, lt_t (by omega), ct, show getE ([m.Young, m.Old] : List (List DCell)) 0 = some m.Young from rfl, bs, row _ 0 m.Young [] (by unfold in64; omega) h1 hwy (fun c hc => List.mem_append_left _ hc) (by simp)]
 rw [major_check_l8_s, show ((([m.Young, m.Old] : List (List DCell)).length : Int)) = 2 from rfl, lt_t (by omega), ct, show getE ([m.Young, m.Old] : List (List DCell)) (0 + 1) = some m.Old from rfl, bs, List.nil_append, row _ (0 + 1) m.Old (m.Young.flatMap addrC) (by unfold in64; omega) h2 hwo (fun c hc => List.mem_append_right _ hc) (by omega)]
 rw [major_check_l8_s, show ((([m.Young, m.Old] : List (List DCell)).length : Int)) = 2 from rfl, lt_f (by omega), cf, hroots _ (by rw [List.length_append]; omega) (fun x hx => by
  rw [← List.flatMap_append] at hx
  exact a64 _ (fun c hc => hc) x hx), List.all_append, List.flatMap_append]
 cases m.Young.all (rightC (k + 3)) <;> cases m.Old.all (rightC (k + 3)) <;> rfl
def rho (f : List Int) (a : Int) : Int := 2 * ((f.idxOf a : Nat) : Int) + 2
def movV (ρ : Int → Int) (f : List Int) (v : DValue) : DValue := bif hasB v && decide (v.N ∈ f) then ⟨v.Kind, ρ v.N, v.S⟩ else v
def movC (ρ : Int → Int) (f : List Int) (c : DCell) : DCell := ⟨c.Kind, c.Shape, c.Flags, c.Age, c.Slots.map (movV ρ f), c.More.map (movV ρ f)⟩
def RhoM (kv : List (Int × Int)) (f : List Int) : Prop := ∀ x, lk kv x = if x ∈ f then some (rho f x) else none
theorem moved_prog (N : Nat) (hN : 5000 < N) (l : List DValue) (hl : l.length ≤ 5000) (kv : List (Int × Int)) (f : List Int) (hk : RhoM kv f) : major_moved_O N l kv = some (l.map (movV (rho f) f)) := by
 apply Sat.eq
 unfold major_moved_O
 refine loop_inv (fun k i (s : List DValue) => major_moved_l5 N l kv k s (i : Int)) l.length (fun i s => s = (l.take i).map (movV (rho f) f)) _ ?_ ?_ N 0 [] (by omega) (by omega) rfl
 ·rintro k i s hi h1 go
  show Sat (major_moved_l5 N l kv (k + 1) s (i : Int)) _
  have hsl : s.length ≤ i := by rw [h1, List.length_map, List.length_take]; omega
  have hnext : (l.take (i + 1)).map (movV (rho f) f) = s ++ [movV (rho f) f l[i]] := by rw [take_succ_get hi, List.map_append, h1]; rfl
  rw [major_moved_l5_s, lt_t (by omega), ct, getE_n hi, bs, hk l[i].N, kind_has]
  unfold major_moved_j12
  by_cases hm : l[i].N ∈ f
  ·rw [if_pos hm]
   simp only [bs, Option.isSome_some, ct]
   cases hb : hasB l[i]
   ·rw [cf, rF (by simp; omega), r64 (by omega) (by omega)]
    refine go _ ?_
    rw [hnext]; unfold movV; rw [hb]; rfl
   ·rw [ct, rF (by simp; omega), r64 (by omega) (by omega)]
    refine go _ ?_
    rw [hnext]; unfold movV; rw [hb, decide_eq_true hm]; rfl
  ·rw [if_neg hm]
   simp only [bs, Option.isSome_none, cf]
   rw [rF (by simp; omega), r64 (by omega) (by omega)]
   refine go _ ?_
   rw [hnext]; unfold movV; rw [decide_eq_false hm, Bool.and_false]; rfl
 ·rintro k s h1
  show Sat (major_moved_l5 N l kv (k + 1) s _) _
  rw [major_moved_l5_s, lt_f (by omega), cf]
  exact sat_some (by rw [h1, List.take_length])
def clC (N : Nat) (l : List Int) (c : DCell) : DCell := bif decide (c.Kind = 8) then cleanW N l c else bif decide (c.Kind = 10) then (cleanF l c).1 else c
def told (l : List Int) (c : DCell) : List DValue := bif decide (c.Kind = 10) then (cleanF l c).2 else []
theorem clC_len (N : Nat) (l : List Int) (c : DCell) : (clC N l c).Slots.length = c.Slots.length ∧ (clC N l c).More.length + (told l c).length ≤ c.More.length := by
 unfold clC told
 by_cases h8 : c.Kind = 8
 ·rw [decide_eq_true h8, decide_eq_false (p := c.Kind = 10) (by omega)]
  have := cleanW_len N l c
  simp only [cond_true, cond_false, List.length_nil]; omega
 ·rw [decide_eq_false h8]
  by_cases h10 : c.Kind = 10
  ·rw [decide_eq_true h10]
   have := kt_len l (c.More.headD zeroV) (c.More.drop 1)
   rw [List.length_drop] at this
   unfold cleanF
   refine ⟨rfl, ?_⟩
   show (c.More.take 1 ++ keptE l (c.More.drop 1)).length + (toldE l (c.More.headD zeroV) (c.More.drop 1)).length ≤ c.More.length
   rw [List.length_append, List.length_take]
   cases hm : c.More with
   | nil => rw [hm] at this; simp [keptE, toldE]
   | cons a r => rw [hm] at this; simp only [List.length_cons] at this ⊢; omega
  ·rw [decide_eq_false h10]; simp
theorem RhoM.nil : RhoM [] [] := fun x => rfl
theorem RhoM.add {kv : List (Int × Int)} {i : Nat} {f : List Int} (hi : i < f.length) (h : RhoM kv (f.take i)) (hn : f.Nodup) : RhoM (upL kv f[i] (2 * (i : Int) + 2)) (f.take (i + 1)) := by
 intro x
 have hlen : (f.take i).length = i := by rw [List.length_take]; omega
 have hni : f[i] ∉ f.take i := by
  intro hm
  obtain ⟨j, hj, e⟩ := List.getElem_of_mem hm
  rw [List.length_take] at hj
  rw [List.getElem_take] at e
  exact List.pairwise_iff_getElem.1 (List.nodup_iff_pairwise_ne.1 hn) j i (by omega) hi (by omega) e
 rw [lk_up, take_succ_get hi]
 unfold rho
 rw [List.idxOf_append]
 by_cases e : f[i] = x
 ·rw [if_pos e, ← e, if_pos (List.mem_append_right _ (by simp)), if_neg hni]
  simp [hlen]
 ·rw [if_neg e, h x]
  by_cases hm : x ∈ f.take i
  ·rw [if_pos hm, if_pos (List.mem_append_left _ hm), if_pos hm]; rfl
  ·rw [if_neg hm, if_neg (by simp only [List.mem_append, List.mem_singleton]; exact fun hh => hh.elim hm fun hh => e hh.symm)]
structure Coll where
 next : DMemory
 now : List DValue
 gone : List DValue
def collS (N : Nat) (m : DMemory) (roots : List DValue) (live f : List Int) : Coll :=
 ⟨⟨[], f.map fun a => movC (rho f) f (clC N live (atM m a))⟩, roots.map (movV (rho f) f), (f.flatMap fun a => told live (atM m a)).map (movV (rho f) f)⟩
end Go.Proofs.YtmbaennilhdieaaGreat
/- Plain: valid cells stay valid when their addresses move and dead entries go. -/
namespace Go.Proofs.YtmbaennilhdieaaGreat
open Go.RowKit
structure Mild (g : DValue → DValue) : Prop where
 z : g vZ = vZ
 kind : ∀ v, (g v).Kind = v.Kind
 num : ∀ v, v.Kind = 3 → g v = v
 may : ∀ v, mayB v = true → mayB (g v) = true
section
variable {g : DValue → DValue} (h : Mild g)
include h
theorem Mild.at_ (l : List DValue) (i : Nat) : atL (l.map g) i = g (atL l i) := by
 unfold atL
 simp only [List.getD, List.getElem?_map]
 cases l[i]? with
 | none => exact h.z.symm
 | some v => rfl
theorem Mild.numB (v : DValue) (a b : Int) : Go.Proofs.YtmbaennilhdieaaGreat.numB (g v) a b = Go.Proofs.YtmbaennilhdieaaGreat.numB v a b := by
 unfold Go.Proofs.YtmbaennilhdieaaGreat.numB
 by_cases h3 : v.Kind = 3
 ·rw [h.num v h3]
 ·rw [h.kind, decide_eq_false h3]; rfl
theorem Mild.noneB (v : DValue) (k : Int) : Go.Proofs.YtmbaennilhdieaaGreat.noneB (g v) k = Go.Proofs.YtmbaennilhdieaaGreat.noneB v k := by
 unfold Go.Proofs.YtmbaennilhdieaaGreat.noneB; rw [h.kind]
theorem Mild.ent2 : ∀ l : List DValue, entB2 (l.map g) = entB2 l
 | [] => rfl
 | [_] => rfl
 | k :: v :: r => by
  simp only [List.map_cons]
  simp only [entB2_cons]
  rw [h.kind, h.kind, Mild.ent2 r]
theorem Mild.ent4 : ∀ l : List DValue, entB4 (l.map g) = entB4 l
 | [] => rfl
 | [_] => rfl
 | [_, _] => rfl
 | [_, _, _] => rfl
 | t :: v :: k :: s :: r => by
  simp only [List.map_cons]
  simp only [entB4_cons]
  rw [h.kind, h.kind, h.noneB, h.numB, Mild.ent4 r]
theorem Mild.slots (k sh fl : Int) (l : List DValue) : slotsB k sh fl (l.map g) = slotsB k sh fl l := by
 unfold slotsB
 simp only [List.length_map, h.at_, h.kind, h.noneB]
theorem Mild.more (k : Int) (l : List DValue) : moreB k (l.map g) = moreB k l := by
 unfold moreB
 rw [← List.map_drop, h.ent2, h.ent4]
 simp only [List.length_map, h.at_, h.kind, h.noneB, h.numB]
theorem Mild.all {l : List DValue} (hl : l.all mayB = true) : (l.map g).all mayB = true := by
 rw [List.all_eq_true] at hl ⊢
 intro v hv
 obtain ⟨w, hw, rfl⟩ := List.mem_map.1 hv
 exact h.may w (hl w hw)
theorem Mild.right {c : DCell} (hc : rightB c = true) : rightB ⟨c.Kind, c.Shape, c.Flags, c.Age, c.Slots.map g, c.More.map g⟩ = true := by
 unfold rightB at hc ⊢
 simp only [Bool.and_eq_true] at hc
 obtain ⟨h1, h2, h3, h4, h5⟩ := hc
 simp only [h.slots, h.more, h.all h2, h.all h3, h4, h5, Bool.and_true]
 simp only [Bool.and_eq_true]
 exact h1
end
theorem may_has {v : DValue} (hb : hasB v = true) : mayB v = ((v.S.toList == (⟨#[]⟩ : ByteArray).toList) && decide (1 ≤ v.N)) := by
 have hk : v.Kind = 7 ∨ v.Kind = 9 := by
  unfold hasB at hb
  rw [Bool.or_eq_true, decide_eq_true_eq, decide_eq_true_eq] at hb; exact hb
 unfold mayB r15_May_O
 rcases hk with hk | hk <;> rw [hk] <;> cases (v.S.toList == (⟨#[]⟩ : ByteArray).toList) <;> rfl
structure Ren (ρ : Int → Int) (f : List Int) : Prop where
 inj : ∀ a b, a ∈ f → b ∈ f → ρ a = ρ b → a = b
 pos : ∀ a ∈ f, 1 ≤ ρ a
theorem mov_mild {ρ : Int → Int} {f : List Int} (hρ : Ren ρ f) : Mild (movV ρ f) where
 z := rfl
 kind v := by unfold movV; cases hasB v && decide (v.N ∈ f) <;> rfl
 num v h := by
  have : hasB v = false := by unfold hasB; rw [h]; rfl
  unfold movV; rw [this]; rfl
 may v h := by
  cases hb : hasB v && decide (v.N ∈ f) with
  | false => unfold movV; rw [hb]; exact h
  | true =>
   have hb0 := (Bool.and_eq_true _ _ ▸ hb : hasB v = true ∧ decide (v.N ∈ f) = true)
   have hb1 := hb0.1
   have e : movV ρ f v = ⟨v.Kind, ρ v.N, v.S⟩ := by unfold movV; rw [hb]; rfl
   have hb2 : hasB (⟨v.Kind, ρ v.N, v.S⟩ : DValue) = true := hb1
   rw [e, may_has hb2]
   rw [may_has hb1, Bool.and_eq_true] at h
   rw [Bool.and_eq_true]
   exact ⟨h.1, decide_eq_true (hρ.pos _ (of_decide_eq_true hb0.2))⟩
theorem mov_right {ρ : Int → Int} {f : List Int} (hρ : Ren ρ f) {c : DCell} (h : rightB c = true) : rightB (movC ρ f c) = true := (mov_mild hρ).right h
theorem right_parts {c : DCell} (h : rightB c = true) : c.Slots.all mayB = true ∧ c.More.all mayB = true ∧ moreB c.Kind c.More = true := by
 unfold rightB at h
 simp only [Bool.and_eq_true] at h
 exact ⟨h.2.1, h.2.2.1, h.2.2.2.2⟩
theorem right_with {c : DCell} (h : rightB c = true) {m : List DValue} (h1 : m.all mayB = true) (h2 : moreB c.Kind m = true) : rightB ⟨c.Kind, c.Shape, c.Flags, c.Age, c.Slots, m⟩ = true := by
 unfold rightB at h ⊢
 simp only [Bool.and_eq_true] at h
 obtain ⟨g1, g2, g3, g4, g5⟩ := h
 simp only [g2, h1, g4, h2, Bool.and_true]
 simp only [Bool.and_eq_true]
 exact g1
theorem ent2_clean (p : Int → Bool) : ∀ {l : List DValue}, entB2 l = true → entB2 (cleanL p l) = true
 | [], _ => rfl
 | [_], h => by cases h
 | k :: v :: r, h => by
  rw [entB2_cons] at h
  rw [Bool.and_eq_true] at h
  have ih := ent2_clean p h.2
  simp only [cleanL_cons]
  cases p k.N
  ·exact ih
  ·show entB2 (k :: v :: cleanL p r) = true
   simp only [entB2_cons]
   rw [h.1, ih]; rfl
theorem ent4_kept (lv : List Int) : ∀ {l : List DValue}, entB4 l = true → entB4 (keptE lv l) = true
 | [], _ => rfl
 | [_], h => by cases h
 | [_, _], h => by cases h
 | [_, _, _], h => by cases h
 | t :: v :: k :: s :: r, h => by
  rw [entB4_cons] at h
  rw [Bool.and_eq_true, Bool.and_eq_true, Bool.and_eq_true, Bool.and_eq_true] at h
  obtain ⟨⟨⟨h1, h2⟩, h3, h4⟩, h5⟩ := h
  have ih := ent4_kept lv h5
  simp only [keptE_cons]
  cases decide (t.N ∈ lv)
  ·exact ih
  ·show entB4 (t :: v :: (bif decide (k.Kind = 7) && !decide (k.N ∈ lv) then zeroV else k) :: s :: keptE lv r) = true
   simp only [entB4_cons]
   have h6 : noneB (bif decide (k.Kind = 7) && !decide (k.N ∈ lv) then zeroV else k) 7 = true := by
    cases decide (k.Kind = 7) && !decide (k.N ∈ lv)
    ·exact h3
    ·rfl
   rw [h1, h2, h6, h4, ih]; rfl
theorem kept_mem (lv : List Int) {x : DValue} : ∀ {l : List DValue}, x ∈ keptE lv l → x ∈ l ∨ x = zeroV
 | [], h => by simp [keptE] at h
 | [_], h => by simp [keptE] at h
 | [_, _], h => by simp [keptE] at h
 | [_, _, _], h => by simp [keptE] at h
 | t :: v :: k :: s :: r, h => by
  simp only [keptE_cons] at h
  rcases List.mem_append.1 h with h | h
  ·cases hd : decide (t.N ∈ lv) with
   | false => rw [hd] at h; cases h
   | true =>
    rw [hd] at h
    cases hk : decide (k.Kind = 7) && !decide (k.N ∈ lv) with
    | false => rw [hk] at h; simp at h; rcases h with h | h | h | h <;> subst h <;> simp
    | true => rw [hk] at h; simp at h; rcases h with h | h | h | h <;> subst h <;> simp
  ·rcases kept_mem lv h with h | h
   ·exact .inl (by simp [h])
   ·exact .inr h
theorem may_zero : mayB zeroV = true := by kernel_rfl
theorem clC_right (N : Nat) (lv : List Int) {c : DCell} (h : rightB c = true) : rightB (clC N lv c) = true := by
 obtain ⟨h1, h2, h3⟩ := right_parts h
 unfold clC
 by_cases h8 : c.Kind = 8
 ·rw [eq_t h8, cond_true]
  unfold cleanW
  cases isWM N c
  ·exact h
  ·refine right_with h (m := cleanL (fun x => decide (x ∈ lv)) c.More) ?_ ?_
   ·rw [List.all_eq_true] at h2 ⊢
    exact fun v hv => h2 v (cleanL_mem hv)
   ·rw [h8] at h3 ⊢
    exact ent2_clean _ h3
 ·rw [eq_f h8, cond_false]
  by_cases h10 : c.Kind = 10
  ·rw [eq_t h10, cond_true]
   rw [h10] at h3
   have h3' : (decide (1 ≤ c.More.length) && decide ((atL c.More 0).Kind = 7) && entB4 (c.More.drop 1)) = true := h3
   simp only [Bool.and_eq_true, decide_eq_true_eq] at h3'
   obtain ⟨⟨g1, g2⟩, g3⟩ := h3'
   refine right_with h (m := c.More.take 1 ++ keptE lv (c.More.drop 1)) ?_ ?_
   ·rw [List.all_eq_true] at h2 ⊢
    intro v hv
    rcases List.mem_append.1 hv with hv | hv
    ·exact h2 v (List.mem_of_mem_take hv)
    ·rcases kept_mem lv hv with hv | rfl
     ·exact h2 v (List.mem_of_mem_drop hv)
     ·exact may_zero
   ·rw [h10]
    show (decide (1 ≤ (c.More.take 1 ++ keptE lv (c.More.drop 1)).length) && decide ((atL (c.More.take 1 ++ keptE lv (c.More.drop 1)) 0).Kind = 7) && entB4 ((c.More.take 1 ++ keptE lv (c.More.drop 1)).drop 1)) = true
    obtain ⟨a, r, hr⟩ : ∃ a r, c.More = a :: r := by
     cases hm : c.More with
     | nil => rw [hm] at g1; simp at g1
     | cons a r => exact ⟨a, r, rfl⟩
    rw [hr] at g2 g3 ⊢
    have e1 : (a :: r).take 1 ++ keptE lv ((a :: r).drop 1) = a :: keptE lv r := rfl
    rw [e1]
    have g3' : entB4 r = true := g3
    have g2' : a.Kind = 7 := g2
    simp only [Bool.and_eq_true, decide_eq_true_eq]
    exact ⟨⟨by simp, g2'⟩, ent4_kept lv g3'⟩
  ·rw [eq_f h10, cond_false]; exact h
end Go.Proofs.YtmbaennilhdieaaGreat
/- Plain: a traversal under a renaming of addresses. No program in sight. -/
namespace Go.Proofs.YtmbaennilhdieaaGreat
open Go.RowKit
structure MapG (g g' : Gr) (ρ : Int → Int) (S : Int → Prop) : Prop where
 inj : ∀ a b, S a → S b → ρ a = ρ b → a = b
 has : ∀ a, S a → g.has a = true ∧ g'.has (ρ a) = true
 leads : ∀ a, S a → g'.leads (ρ a) = (g.leads a).map ρ ∧ ∀ x ∈ g.leads a, S x
 opens : ∀ row a, (∀ x ∈ row, S x) → S a → g'.opens (row.map ρ) (ρ a) = (g.opens row a).map ρ ∧ ∀ x ∈ g.opens row a, S x
end Go.Proofs.YtmbaennilhdieaaGreat
/- Plain: sums over distinct addresses. -/
namespace Go.Proofs.YtmbaennilhdieaaGreat
open Go.RowKit
def sumF {α : Type} (g : α → Nat) : List α → Nat
 | [] => 0
 | a :: l => g a + sumF g l
theorem sumF_perm {α : Type} (g : α → Nat) {a b : List α} (h : a.Perm b) : sumF g a = sumF g b := by
 induction h with
 | nil => rfl
 | cons x _ ih => rw [sumF, sumF, ih]
 | swap x y l => rw [sumF, sumF, sumF, sumF]; omega
 | trans _ _ h1 h2 => rw [h1, h2]
theorem sumF_sub (g : Int → Nat) : ∀ {l L : List Int}, l.Nodup → (∀ x ∈ l, x ∈ L) → sumF g l ≤ sumF g L
 | [], _, _, _ => Nat.zero_le _
 | a :: l, L, hn, hs => by
  obtain ⟨h1, h2⟩ := List.nodup_cons.1 hn
  have hp := List.perm_cons_erase (hs a (by simp))
  rw [sumF_perm g hp, sumF, sumF]
  have := sumF_sub g (l := l) (L := L.erase a) h2 fun x hx => (List.mem_erase_of_ne (fun e : x = a => h1 (by rw [← e]; exact hx))).2 (hs x (by simp [hx]))
  omega
theorem sumF_map {α β : Type} (g : β → Nat) (f : α → β) : ∀ l : List α, sumF g (l.map f) = sumF (fun x => g (f x)) l
 | [] => rfl
 | x :: l => by rw [List.map_cons, sumF, sumF, sumF_map g f l]
theorem sumF_le {α : Type} {g h : α → Nat} : ∀ {l : List α}, (∀ x ∈ l, g x ≤ h x) → sumF g l ≤ sumF h l
 | [], _ => Nat.le_refl _
 | x :: l, hh => by
  rw [sumF, sumF]
  have h1 := hh x (by simp)
  have h2 := sumF_le (l := l) fun y hy => hh y (by simp [hy])
  omega
theorem flatMap_len {α β : Type} (f : α → List β) : ∀ l : List α, (l.flatMap f).length = sumF (fun x => (f x).length) l
 | [] => rfl
 | x :: l => by rw [List.flatMap_cons, List.length_append, sumF, flatMap_len f l]
theorem sumF_add {α : Type} (g h : α → Nat) : ∀ l : List α, sumF (fun x => g x + h x) l = sumF g l + sumF h l
 | [] => rfl
 | x :: l => by rw [sumF, sumF, sumF, sumF_add g h l]; omega
def wC (c : DCell) : Nat := 1 + c.Slots.length + c.More.length
theorem wt_sum : ∀ l : List DCell, wt l = sumF wC l
 | [] => rfl
 | c :: l => by rw [wt, sumF, wt_sum l]; rfl
def allA (m : DMemory) : List Int := (List.range m.Young.length).map (fun i : Nat => 2 * (i : Int) + 1) ++ (List.range m.Old.length).map (fun i : Nat => 2 * (i : Int) + 2)
theorem atM_y (m : DMemory) (i : Nat) (h : i < m.Young.length) : atM m (2 * (i : Int) + 1) = m.Young[i] := by
 unfold atM cellAt
 rw [if_neg (by omega), if_pos (by omega), show ((2 * (i : Int) + 1 - 1) / 2).toNat = i by omega, List.getElem?_eq_getElem h]; rfl
theorem atM_o (m : DMemory) (i : Nat) (h : i < m.Old.length) : atM m (2 * (i : Int) + 2) = m.Old[i] := by
 unfold atM cellAt
 rw [if_neg (by omega), if_neg (by omega), show ((2 * (i : Int) + 2 - 2) / 2).toNat = i by omega, List.getElem?_eq_getElem h]; rfl
theorem hasM_y (m : DMemory) (i : Nat) : hasM m (2 * (i : Int) + 1) = decide (i < m.Young.length) := by
 unfold hasM cellAt
 rw [if_neg (by omega), if_pos (by omega), show ((2 * (i : Int) + 1 - 1) / 2).toNat = i by omega]
 by_cases h : i < m.Young.length
 ·rw [List.getElem?_eq_getElem h, decide_eq_true h]; rfl
 ·rw [List.getElem?_eq_none (by omega), decide_eq_false h]; rfl
theorem hasM_o (m : DMemory) (i : Nat) : hasM m (2 * (i : Int) + 2) = decide (i < m.Old.length) := by
 unfold hasM cellAt
 rw [if_neg (by omega), if_neg (by omega), show ((2 * (i : Int) + 2 - 2) / 2).toNat = i by omega]
 by_cases h : i < m.Old.length
 ·rw [List.getElem?_eq_getElem h, decide_eq_true h]; rfl
 ·rw [List.getElem?_eq_none (by omega), decide_eq_false h]; rfl
theorem allA_map (m : DMemory) : (allA m).map (atM m) = m.Young ++ m.Old := by
 unfold allA
 rw [List.map_append, List.map_map, List.map_map]
 congr 1
 ·refine List.ext_getElem (by simp) fun i h1 h2 => ?_
  simp only [List.getElem_map, List.getElem_range, Function.comp]
  exact atM_y m i h2
 ·refine List.ext_getElem (by simp) fun i h1 h2 => ?_
  simp only [List.getElem_map, List.getElem_range, Function.comp]
  exact atM_o m i h2
theorem hasM_form {m : DMemory} {a : Int} (h : hasM m a = true) : (∃ i : Nat, i < m.Young.length ∧ a = 2 * (i : Int) + 1) ∨ ∃ i : Nat, i < m.Old.length ∧ a = 2 * (i : Int) + 2 := by
 rcases addr_cases m a with ⟨h1, h2⟩ | ⟨k, h1, -⟩ | ⟨k, h1, -⟩
 ·unfold hasM at h; rw [h2] at h; cases h
 ·subst h1; rw [hasM_y] at h; exact .inl ⟨k, of_decide_eq_true h, rfl⟩
 ·subst h1; rw [hasM_o] at h; exact .inr ⟨k, of_decide_eq_true h, rfl⟩
theorem mem_allA {m : DMemory} {a : Int} (h : hasM m a = true) : a ∈ allA m := by
 unfold allA
 rcases hasM_form h with ⟨i, h1, rfl⟩ | ⟨i, h1, rfl⟩
 ·exact List.mem_append_left _ (List.mem_map.2 ⟨i, List.mem_range.2 h1, rfl⟩)
 ·exact List.mem_append_right _ (List.mem_map.2 ⟨i, List.mem_range.2 h1, rfl⟩)
theorem sum_addr {m : DMemory} {l : List Int} (hn : l.Nodup) (hh : ∀ a ∈ l, hasM m a = true) : sumF (fun a => wC (atM m a)) l ≤ wt m.Young + wt m.Old := by
 have h1 := sumF_sub (fun a => wC (atM m a)) hn fun a ha => mem_allA (hh a ha)
 have h2 := sumF_map wC (atM m) (allA m)
 rw [allA_map, ← wt_sum, wt_app] at h2
 omega
theorem atM_mem {m : DMemory} {a : Int} (h : hasM m a = true) : atM m a ∈ m.Young ++ m.Old := by
 unfold hasM at h
 unfold atM
 cases hc : cellAt m a with
 | none => rw [hc] at h; cases h
 | some c => exact cellAt_mem hc
end Go.Proofs.YtmbaennilhdieaaGreat
/- Plain: the forwarding addresses of a major collection. -/
namespace Go.Proofs.YtmbaennilhdieaaGreat
open Go.RowKit
def exP : DMemory := ⟨[⟨11, 0, 0, 0, [], [⟨7, 2, ⟨#[]⟩⟩]⟩, ⟨11, 0, 0, 0, [], []⟩], [⟨11, 0, 0, 0, [], []⟩, ⟨11, 0, 0, 0, [], []⟩]⟩
def exF : DMemory := ⟨[], [⟨10, 0, 0, 0, [⟨1, 0, ⟨#[]⟩⟩], [⟨7, 4, ⟨#[]⟩⟩, ⟨7, 6, ⟨#[]⟩⟩, ⟨7, 8, ⟨#[]⟩⟩, ⟨0, 0, ⟨#[]⟩⟩, ⟨3, 7, ⟨#[]⟩⟩]⟩, ⟨11, 0, 0, 0, [], []⟩, ⟨11, 0, 0, 0, [], []⟩, ⟨11, 0, 0, 0, [], []⟩]⟩
theorem oP : reach_Order_O 6000 exP [⟨7, 1, ⟨#[]⟩⟩] = some [1, 2] := by kernel_rfl
theorem oF : reach_Order_O 6000 exF [⟨7, 2, ⟨#[]⟩⟩] = some [2, 4, 8] := by kernel_rfl
theorem lP : reach_Live_O 6000 exP [⟨7, 1, ⟨#[]⟩⟩] = some [1, 2] := live_of oP (by decide) (sortL_eq (by decide) (by decide) (by intro x; simp))
theorem lF : reach_Live_O 6000 exF [⟨7, 2, ⟨#[]⟩⟩] = some [2, 4, 8] := live_of oF (by decide) (sortL_eq (by decide) (by decide) (by intro x; simp))
theorem pP : major_Places_O 6000 exP [⟨7, 1, ⟨#[]⟩⟩] = some ([2, 1], [2, 4]) := by
 unfold major_Places_O
 rw [lP, bs]
 kernel_rfl
theorem tmod_pos {a : Int} (h : 0 < a) : a.tmod 2 = 0 ∨ a.tmod 2 = 1 := by
 rw [tmod2 (by omega)]; omega
theorem newOrd_mem {live : List Int} (hp : ∀ a ∈ live, 0 < a) (a : Int) : a ∈ newOrd live ↔ a ∈ live := by
 unfold newOrd evenB oddB
 rw [List.mem_append, List.mem_filter, List.mem_filter, decide_eq_true_eq, decide_eq_true_eq]
 constructor
 ·rintro (h | h) <;> exact h.1
 ·intro h
  rcases tmod_pos (hp a h) with h2 | h2
  ·exact .inl ⟨h, h2⟩
  ·exact .inr ⟨h, h2⟩
theorem newOrd_len : ∀ {live : List Int}, (∀ a ∈ live, 0 < a) → (newOrd live).length = live.length
 | [], _ => rfl
 | a :: l, hp => by
  have ih := newOrd_len (live := l) fun b hb => hp b (by simp [hb])
  unfold newOrd at ih ⊢
  rw [List.length_append] at ih ⊢
  rcases tmod_pos (hp a (by simp)) with h | h
  ·have e1 : evenB a = true := decide_eq_true h
   have e2 : oddB a = false := decide_eq_false (by omega)
   simp only [List.filter_cons, e1, e2, if_true, Bool.false_eq_true, if_false, List.length_cons]; omega
  ·have e1 : evenB a = false := decide_eq_false (by omega)
   have e2 : oddB a = true := decide_eq_true h
   simp only [List.filter_cons, e1, e2, if_true, Bool.false_eq_true, if_false, List.length_cons]; omega
theorem newOrd_pw {live : List Int} (h : live.Pairwise (· < ·)) : (newOrd live).Pairwise fun a b => ¬ (a.tmod 2 = 1 ∧ b.tmod 2 = 0) ∧ (a.tmod 2 = b.tmod 2 → a < b) := by
 have hev : ∀ a ∈ live.filter evenB, a.tmod 2 = 0 := fun a ha => of_decide_eq_true (List.mem_filter.1 ha).2
 have hod : ∀ a ∈ live.filter oddB, a.tmod 2 = 1 := fun a ha => of_decide_eq_true (List.mem_filter.1 ha).2
 unfold newOrd
 refine List.pairwise_append.2 ⟨(h.filter _).imp_of_mem fun {a b} ha hb hlt => ⟨fun hh => ?_, fun _ => hlt⟩, (h.filter _).imp_of_mem fun {a b} ha hb hlt => ⟨fun hh => ?_, fun _ => hlt⟩, fun a ha b hb => ⟨fun hh => ?_, fun hh => ?_⟩⟩
 ·have := hev a ha; omega
 ·have := hod b hb; omega
 ·have := hev a ha; omega
 ·have := hev a ha; have := hod b hb; omega
theorem cP : major_Collect_O 6000 exP [⟨7, 1, ⟨#[]⟩⟩] = some (⟨[], [⟨11, 0, 0, 0, [], []⟩, ⟨11, 0, 0, 0, [], [⟨7, 2, ⟨#[]⟩⟩]⟩]⟩, [⟨7, 4, ⟨#[]⟩⟩], [], 0) := by
 unfold major_Collect_O
 rw [lP]
 kernel_rfl
theorem cF : major_Collect_O 6000 exF [⟨7, 2, ⟨#[]⟩⟩] = some (⟨[], [⟨10, 0, 0, 0, [⟨1, 0, ⟨#[]⟩⟩], [⟨7, 4, ⟨#[]⟩⟩]⟩, ⟨11, 0, 0, 0, [], []⟩, ⟨11, 0, 0, 0, [], []⟩]⟩, [⟨7, 2, ⟨#[]⟩⟩], [⟨7, 4, ⟨#[]⟩⟩, ⟨7, 6, ⟨#[]⟩⟩, ⟨3, 7, ⟨#[]⟩⟩], 0) := by
 unfold major_Collect_O
 rw [lF]
 kernel_rfl
theorem goes22_true : w22_goes_O 6000 = some true := by
 have h1 : major_Places_O 6000 (⟨([⟨11, 0, 0, 0, [], [⟨7, 2, ⟨#[]⟩⟩]⟩, ⟨11, 0, 0, 0, [], []⟩] : List DCell), ([⟨11, 0, 0, 0, [], []⟩, ⟨11, 0, 0, 0, [], []⟩] : List DCell)⟩ : DMemory) ([⟨7, 1, ⟨#[]⟩⟩] : List DValue) = some ([2, 1], [2, 4]) := pP
 have h2 : major_Collect_O 6000 (⟨([⟨11, 0, 0, 0, [], [⟨7, 2, ⟨#[]⟩⟩]⟩, ⟨11, 0, 0, 0, [], []⟩] : List DCell), ([⟨11, 0, 0, 0, [], []⟩, ⟨11, 0, 0, 0, [], []⟩] : List DCell)⟩ : DMemory) ([⟨7, 1, ⟨#[]⟩⟩] : List DValue) = _ := cP
 have h3 : major_Collect_O 6000 (⟨[], ([⟨10, 0, 0, 0, ([(⟨1, 0, ⟨#[]⟩⟩ : DValue)] : List DValue), ([⟨7, 4, ⟨#[]⟩⟩, ⟨7, 6, ⟨#[]⟩⟩, ⟨7, 8, ⟨#[]⟩⟩, (⟨0, 0, ⟨#[]⟩⟩ : DValue), (⟨3, 7, ⟨#[]⟩⟩ : DValue)] : List DValue)⟩, ⟨11, 0, 0, 0, [], []⟩, ⟨11, 0, 0, 0, [], []⟩, ⟨11, 0, 0, 0, [], []⟩] : List DCell)⟩ : DMemory) ([⟨7, 2, ⟨#[]⟩⟩] : List DValue) = _ := cF
 unfold w22_goes_O w22_object_O w22_goes_c1_O
 simp only [bs]
 rw [h1, bs, h2, bs, h3, bs]
 clear h1 h2 h3
 refine Eq.trans ?_ (Eq.refl (some true))
 kernel_rfl
end Go.Proofs.YtmbaennilhdieaaGreat
/- Plain: the program's major collection is the function. -/
namespace Go.Proofs.YtmbaennilhdieaaGreat
open Go.RowKit
theorem all_mem {α : Type} {p : α → Bool} {l : List α} (h : l.all p = true) {x : α} (hx : x ∈ l) : p x = true := List.all_eq_true.1 h x hx
theorem checkM_ok {N : Nat} {m : DMemory} {roots : List DValue} (h : checkM N m roots = 0) : (∀ c ∈ m.Young ++ m.Old, rightC N c = true) ∧ (∀ c ∈ m.Young ++ m.Old, ∀ x ∈ addrC c, hasM m x = true) ∧ ∀ x ∈ addrL roots, hasM m x = true := by
 unfold checkM at h
 cases h1 : (m.Young ++ m.Old).all (rightC N) with
 | false => rw [h1] at h; cases h
 | true =>
  rw [h1] at h
  cases h2 : wholeB m ((m.Young ++ m.Old).flatMap addrC ++ addrL roots) with
  | false => rw [h2] at h; cases h
  | true =>
   unfold wholeB at h2
   refine ⟨fun c hc => all_mem h1 hc, fun c hc x hx => all_mem h2 (List.mem_append_left _ (List.mem_flatMap.2 ⟨c, hc, hx⟩)), fun x hx => all_mem h2 (List.mem_append_right _ hx)⟩
structure Live (N : Nat) (m : DMemory) (roots : List DValue) (live f : List Int) : Prop where
 ord : ∃ b all, IsOrder (grM N m) (addrL roots) b all ∧ live = sortL all ∧ f = newOrd live
 prog : reach_Live_O N m roots = some live
 ref : r19_Live_O N m roots = some live
 mem : ∀ a, a ∈ f ↔ a ∈ live
 len : f.length = live.length
 small : live.length ≤ 1200
 nd : f.Nodup
 asc : live.Pairwise (· < ·)
 has : ∀ a ∈ live, hasM m a = true
theorem newOrd_nd {live : List Int} (h : live.Pairwise (· < ·)) : (newOrd live).Nodup := by
 rw [List.nodup_iff_pairwise_ne]
 refine (newOrd_pw h).imp fun {a b} hab e => ?_
 have := hab.2 (by rw [e])
 omega
theorem live_ok (N : Nat) (hN : 5000 < N) {m : DMemory} {roots : List DValue} (hs : Small m roots) (hw : W64 m) (hr : ∀ v ∈ roots, in64 v.N) : ∃ live f, Live N m roots live f := by
 obtain ⟨bg, all, ho, hlen, -, -, o0⟩ := order_fun N hN hs hw hr
 obtain ⟨b', all', ho', r0, -⟩ := rorder_fun N hN hs hw hr
 obtain ⟨-, e2⟩ := ho.det ho'
 subst e2
 have hll : (sortL all).length = all.length := sortL_len all
 have hmem := sortL_mem all
 have hasc := sortL_asc ho.nodup.2
 have hhas : ∀ a ∈ sortL all, hasM m a = true := fun a ha => ho.has.2 a ((hmem a).1 ha)
 have hpos : ∀ a ∈ sortL all, 0 < a := fun a ha => hasM_pos (hhas a ha)
 refine ⟨sortL all, newOrd (sortL all), ⟨⟨_, all, ho, rfl, rfl⟩, live_of o0 (by omega) rfl, ?_, newOrd_mem hpos, newOrd_len hpos, by omega, newOrd_nd hasc, hasc, hhas⟩⟩
 unfold r19_Live_O
 rw [r0, bs, rising_fun N hN all (by omega) ho.nodup.2, bs]
theorem Live.fhas {N : Nat} {m : DMemory} {roots : List DValue} {live f : List Int} (h : Live N m roots live f) {a : Int} (ha : a ∈ f) : hasM m a = true := h.has a ((h.mem a).1 ha)
theorem told_sum {N : Nat} {m : DMemory} {roots : List DValue} {live f : List Int} (h : Live N m roots live f) : (f.flatMap fun a => told live (atM m a)).length + wt (f.map fun a => movC (rho f) f (clC N live (atM m a))) ≤ wt m.Young + wt m.Old := by
 have h1 := sum_addr h.nd fun a ha => h.fhas ha
 rw [flatMap_len, wt_sum, sumF_map, ← sumF_add]
 refine Nat.le_trans (sumF_le fun a ha => ?_) h1
 have := clC_len N live (atM m a)
 unfold wC movC
 simp only [List.length_map]
 omega
theorem told_take {N : Nat} {m : DMemory} {roots : List DValue} {live f : List Int} (h : Live N m roots live f) (n : Nat) : ((f.take n).flatMap fun a => told live (atM m a)).length ≤ wt m.Young + wt m.Old := by
 have h1 := told_sum h
 have h2 : (f.flatMap fun a => told live (atM m a)) = ((f.take n).flatMap fun a => told live (atM m a)) ++ ((f.drop n).flatMap fun a => told live (atM m a)) := by rw [← List.flatMap_append, List.take_append_drop]
 rw [h2, List.length_append] at h1
 omega
def collR (N : Nat) (m : DMemory) (roots : List DValue) (live f : List Int) : DMemory × List DValue × List DValue × Int :=
 bif decide (checkM N m roots = 0) then ((collS N m roots live f).next, (collS N m roots live f).now, (collS N m roots live f).gone, 0) else (⟨[], []⟩, [], [], checkM N m roots)
theorem collect_prog (N : Nat) (hN : 5000 < N) {m : DMemory} {roots : List DValue} (hs : Small m roots) (ht : Wtd m roots) (hw : W64 m) (hr : ∀ v ∈ roots, in64 v.N) {live f : List Int} (hl : Live N m roots live f) : major_Collect_O N m roots = some (collR N m roots live f) := by
 apply Sat.eq
 have hle := ht.le
 have hlen := hl.small
 have hfl := hl.len
 unfold major_Collect_O collR
 rw [check_prog N hN hs ht hw hr, bs]
 by_cases h0 : ¬ checkM N m roots = 0
 ·rw [eq_f h0]; exact sat_some rfl
 replace h0 : checkM N m roots = 0 := by omega
 rw [eq_t h0]
 simp only [nt, cf, ct]
 obtain ⟨c1, c2, c3⟩ := checkM_ok h0
 obtain ⟨_, _, _, hlv, hff⟩ := hl.ord
 rw [hl.prog, bs]
 unfold major_order_O
 rw [bs]
 refine Sat.bind (order_loop N (fun x st => major_Collect_b20 N roots m live x st) live (by omega) hN (fun n s => RhoM s (f.take n)) ?_ [] ?_) ?_
 ·intro n a s ha h1
  rw [← hff] at ha
  have hn := (List.getElem?_eq_some_iff.1 ha).1
  rw [List.getElem?_eq_getElem hn, Option.some.injEq] at ha
  unfold major_Collect_b20
  simp only
  rw [r64 (by omega) (by omega), r64 (by omega) (by omega)]
  refine sat_some ⟨rfl, ?_⟩
  rw [← ha]
  exact h1.add hn hl.nd
 ·simpa using RhoM.nil
 rintro ⟨e, kv⟩ ⟨g1, g2⟩
 simp only at g1 g2
 subst g1
 rw [← hff, List.take_length] at g2
 unfold caseX
 simp only [bs]
 have hG : ∀ a ∈ f, (clC N live (atM m a)).Slots.length ≤ 600 ∧ (clC N live (atM m a)).More.length ≤ 600 := fun a ha => by
  have h1 := clC_len N live (atM m a)
  have h2 := hs.at_ a
  omega
 refine Sat.bind (order_loop N (fun x st => major_Collect_b27 N roots m live (none, kv) x st) live (by omega) hN (fun n s => s.1 = (f.take n).map (fun a => movC (rho f) f (clC N live (atM m a))) ∧ s.2 = (f.take n).flatMap fun a => told live (atM m a)) ?_ ([], []) ⟨by simp, by simp⟩) ?_
 ·rintro n a ⟨p, q⟩ ha ⟨h1, h2⟩
  rw [← hff] at ha
  simp only at h1 h2
  have hn := (List.getElem?_eq_some_iff.1 ha).1
  have ham : a ∈ f := List.mem_of_getElem? ha
  rw [List.getElem?_eq_getElem hn, Option.some.injEq] at ha
  have hpl : p.length ≤ 2000 := by rw [h1, List.length_map, List.length_take]; omega
  have hql : q.length ≤ 2400 := by have := told_take hl n; rw [h2]; omega
  have hq2 := told_take hl (n + 1)
  have hat := at_prog N hs a (in64_of hs (hl.fhas ham))
  have hsm := hs.at_ a
  have hrt := c1 _ (atM_mem (hl.fhas ham))
  have hc := hG a ham
  rw [take_succ_get hn, ha, List.flatMap_append, ← h2, List.length_append] at hq2
  simp only [List.flatMap_cons, List.flatMap_nil, List.append_nil] at hq2
  -- the last part
  have last : ∀ q', q' = q ++ told live (atM m a) → Sat (major_Collect_j37 N roots m p live (none, kv) q' (clC N live (atM m a)).Kind (clC N live (atM m a)).Shape (clC N live (atM m a)).Flags (clC N live (atM m a)).Age (clC N live (atM m a)).Slots (clC N live (atM m a)).More) fun r => r.1 = none ∧ r.2.1 = (f.take (n + 1)).map (fun a => movC (rho f) f (clC N live (atM m a))) ∧ r.2.2 = (f.take (n + 1)).flatMap fun a => told live (atM m a) := by
   intro q' hq'
   unfold major_Collect_j37
   rw [moved_prog N hN _ (by omega) kv f g2, bs, moved_prog N hN _ (by omega) kv f g2, bs, rF (by simp; omega)]
   refine sat_some ⟨rfl, ?_, ?_⟩
   ·rw [take_succ_get hn, List.map_append, ← h1, ha]; rfl
   ·rw [take_succ_get hn, List.flatMap_append, ← h2, ha, hq']; simp
  unfold major_Collect_b27
  simp only
  rw [hat, bs]
  unfold clC told at last
  unfold told at hq2
  by_cases h8 : (atM m a).Kind = 8
  ·have hwm : isWM N (atM m a) = true := by unfold isWM; rw [decide_eq_true h8]; exact hrt
   rw [eq_t h8, ct, clean_prog N hN live (by omega) _ hsm.1 hsm.2, bs, hwm, ct]
   rw [decide_eq_true h8, decide_eq_false (p := (atM m a).Kind = 10) (by omega)] at last
   simp only [cond_true, cond_false, List.append_nil] at last
   exact last q rfl
  ·by_cases h10 : (atM m a).Kind = 10
   ·have hwm : isFR N (atM m a) = true := by unfold isFR; rw [decide_eq_true h10]; exact hrt
    rw [eq_f h8, cf, eq_t h10, ct, finclean_prog N hN live (by omega) _ hsm.1 hsm.2, bs, hwm, ct]
    rw [decide_eq_true h10] at hq2
    rw [decide_eq_false h8, decide_eq_true h10] at last
    simp only [cond_true, cond_false] at last hq2
    rw [rF (by omega)]
    exact last _ rfl
   ·rw [eq_f h8, cf, eq_f h10, cf]
    rw [decide_eq_false h8, decide_eq_false h10] at last
    simp only [cond_true, cond_false, List.append_nil] at last
    exact last q rfl
 rintro ⟨e, p, q⟩ ⟨g1, g3, g4⟩
 simp only at g1 g3 g4
 subst g1
 rw [← hff, List.take_length] at g3 g4
 have hrl := hs.roots
 have hql : q.length ≤ 2400 := by have := told_take hl f.length; rw [List.take_length] at this; rw [g4]; omega
 simp only
 rw [moved_prog N hN _ (by omega) kv f g2, bs, moved_prog N hN _ (by omega) kv f g2, bs]
 refine sat_some ?_
 unfold collS
 rw [g3, g4]
end Go.Proofs.YtmbaennilhdieaaGreat
/- Plain: the cells that a major collection leaves, and the references in them. -/
namespace Go.Proofs.YtmbaennilhdieaaGreat
open Go.RowKit
theorem idx_lt {f : List Int} {a : Int} (h : a ∈ f) : f.idxOf a < f.length := List.idxOf_lt_length_iff.2 h
theorem idx_get {f : List Int} {a : Int} (h : a ∈ f) : f[f.idxOf a]'(idx_lt h) = a := List.getElem_idxOf (idx_lt h)
theorem rho_inj {f : List Int} {a b : Int} (ha : a ∈ f) (hb : b ∈ f) (h : rho f a = rho f b) : a = b := by
 unfold rho at h
 have e : f.idxOf a = f.idxOf b := by omega
 have h1 := idx_get ha
 have h2 := idx_get hb
 rw [← h1, ← h2]
 congr 1
theorem rho_ren (f : List Int) : Ren (rho f) f := ⟨fun _ _ h1 h2 h3 => rho_inj h1 h2 h3, fun a _ => by unfold rho; omega⟩
theorem mov_has (ρ : Int → Int) (f : List Int) (v : DValue) : hasB (movV ρ f v) = hasB v := hasB_kind (by unfold movV; cases hasB v && decide (v.N ∈ f) <;> rfl)
theorem mov_in {ρ : Int → Int} {f : List Int} {v : DValue} (h1 : hasB v = true) (h2 : v.N ∈ f) : movV ρ f v = ⟨v.Kind, ρ v.N, v.S⟩ := by
 unfold movV; rw [h1, decide_eq_true h2]; rfl
theorem pick_map {ρ : Int → Int} {f : List Int} (F : Nat → DValue → Bool) (hF : ∀ i v, F i (movV ρ f v) = F i v) (hB : ∀ i v, F i v = true → hasB v = true) : ∀ (i : Nat) (l : List DValue), (∀ x ∈ pick F i l, x ∈ f) → pick F i (l.map (movV ρ f)) = (pick F i l).map ρ
 | _, [], _ => rfl
 | i, v :: l, h => by
  rw [pick_cons] at h
  rw [List.map_cons, pick_cons, pick_cons, hF, List.map_append, pick_map F hF hB (i + 1) l fun x hx => h x (List.mem_append_right _ hx)]
  cases hv : F i v with
  | false => rfl
  | true => rw [cond_true, cond_true, mov_in (hB i v hv) (h v.N (List.mem_append_left _ (by rw [hv]; simp)))]; rfl
theorem pick_in {F : Nat → DValue → Bool} : ∀ {i : Nat} {l : List DValue} {j : Nat} {v : DValue}, l[j]? = some v → F (i + j) v = true → v.N ∈ pick F i l
 | i, w :: l, 0, v, h, hF => by
  simp only [List.getElem?_cons_zero, Option.some.injEq] at h
  subst h
  rw [pick_cons]
  rw [Nat.add_zero] at hF
  rw [hF]; simp
 | i, w :: l, j + 1, v, h, hF => by
  simp only [List.getElem?_cons_succ] at h
  rw [pick_cons]
  exact List.mem_append_right _ (pick_in (i := i + 1) h (by rw [show i + 1 + j = i + (j + 1) by omega]; exact hF))
 | i, [], j, v, h, _ => by simp at h
def AddrIn (f : List Int) (l : List DValue) : Prop := ∀ v ∈ l, hasB v = true → v.N ∈ f
theorem slots_in {f : List Int} {c : DCell} (h : ∀ x ∈ leadsL c, x ∈ f) : AddrIn f c.Slots := fun v hv hb => by
 obtain ⟨j, hj, e⟩ := List.getElem_of_mem hv
 refine h _ (List.mem_append_left _ (pick_in (j := j) (by rw [List.getElem?_eq_getElem hj, e]) hb))
theorem more_in {f : List Int} {c : DCell} (h : ∀ x ∈ leadsL c, x ∈ f) {j : Nat} {v : DValue} (hj : c.More[j]? = some v) (hw : weakB c.Kind j = false) (hb : hasB v = true) : v.N ∈ f :=
 h _ (List.mem_append_right _ (pick_in (j := j) hj (by rw [Nat.zero_add, hw, hb]; rfl)))
theorem weak_other {k : Int} (h8 : k ≠ 8) (h10 : k ≠ 10) (i : Nat) : weakB k i = false := by
 unfold weakB; rw [eq_f h8, eq_f h10]; rfl
theorem cleanL_in {lv f : List Int} (hlv : ∀ x, x ∈ lv ↔ x ∈ f) : ∀ {l : List DValue}, entB2 l = true → (∀ x ∈ opens (fun x => decide (x ∈ lv)) l, x ∈ f) → AddrIn f (cleanL (fun x => decide (x ∈ lv)) l)
 | [], _, _ => fun v hv => by simp [cleanL] at hv
 | [_], h, _ => by cases h
 | k :: v :: r, h, ho => by
  rw [entB2_cons] at h
  rw [Bool.and_eq_true] at h
  rw [opens_cons] at ho
  have ih := cleanL_in hlv h.2 fun x hx => ho x (List.mem_append_right _ hx)
  intro w hw hb
  simp only [cleanL_cons] at hw
  rcases List.mem_append.1 hw with hw | hw
  ·cases hd : decide (k.N ∈ lv) with
   | false => rw [hd] at hw; cases hw
   | true =>
    rw [hd] at hw
    simp only [cond_true, List.mem_cons, List.not_mem_nil, or_false] at hw
    rcases hw with rfl | rfl
    ·exact (hlv _).1 (of_decide_eq_true hd)
    ·exact ho _ (List.mem_append_left _ (by rw [hb, hd]; simp))
  ·exact ih w hw hb
theorem kept_in {lv f : List Int} (hlv : ∀ x, x ∈ lv ↔ x ∈ f) : ∀ {l : List DValue}, entB4 l = true → (∀ j v, l[4 * j + 1]? = some v → hasB v = true → v.N ∈ f) → AddrIn f (keptE lv l)
 | [], _, _ => fun v hv => by simp [keptE] at hv
 | [_], h, _ => by cases h
 | [_, _], h, _ => by cases h
 | [_, _, _], h, _ => by cases h
 | t :: a :: k :: s :: r, h, ho => by
  rw [entB4_cons] at h
  simp only [Bool.and_eq_true, decide_eq_true_eq] at h
  obtain ⟨⟨⟨h1, -⟩, h3, h4⟩, h5⟩ := h
  have ih := kept_in hlv h5 fun j v hj hb => ho (j + 1) v (by rw [show 4 * (j + 1) + 1 = 4 * j + 1 + 4 by omega]; simpa using hj) hb
  intro w hw hb
  simp only [keptE_cons] at hw
  rcases List.mem_append.1 hw with hw | hw
  ·cases hd : decide (t.N ∈ lv) with
   | false => rw [hd] at hw; cases hw
   | true =>
    rw [hd] at hw
    simp only [cond_true, List.mem_cons, List.not_mem_nil, or_false] at hw
    rcases hw with rfl | rfl | rfl | rfl
    ·exact (hlv _).1 (of_decide_eq_true hd)
    ·exact ho 0 w rfl hb
    ·cases hk : decide (k.Kind = 7) && !decide (k.N ∈ lv) with
     | true => rw [hk] at hb; cases hb
     | false =>
      rw [hk] at hb
      simp only [cond_false] at hb ⊢
      have hk7 : k.Kind = 7 := by
       unfold noneB at h3
       rw [Bool.or_eq_true, decide_eq_true_eq, decide_eq_true_eq] at h3
       rcases h3 with h3 | h3
       ·unfold hasB at hb; rw [h3] at hb; cases hb
       ·exact h3
      rw [decide_eq_true hk7, Bool.true_and] at hk
      exact (hlv _).1 (by by_cases hm : k.N ∈ lv; exact hm; rw [decide_eq_false hm] at hk; cases hk)
    ·have : w.Kind = 3 := by
      unfold numB at h4
      rw [Bool.and_eq_true, decide_eq_true_eq] at h4; exact h4.1
     unfold hasB at hb; rw [this] at hb; cases hb
  ·exact ih w hw hb
end Go.Proofs.YtmbaennilhdieaaGreat
/- Plain: a cell before and after a major collection. -/
namespace Go.Proofs.YtmbaennilhdieaaGreat
open Go.RowKit
structure CellOk (N : Nat) (lv f : List Int) (c : DCell) : Prop where
 big : 2000 < N
 right : rightB c = true
 slots : c.Slots.length ≤ 600
 more : c.More.length ≤ 600
 leads : ∀ x ∈ leadsL c, x ∈ f
 opens : ∀ x ∈ opensL N c lv, x ∈ f
 mem : ∀ x, x ∈ lv ↔ x ∈ f
theorem isWM_right {N : Nat} (hN : 2000 < N) {c : DCell} (h : rightB c = true) (hS : c.Slots.length ≤ 600) (hM : c.More.length ≤ 600) : isWM N c = decide (c.Kind = 8) := by
 unfold isWM
 rw [right_spec N hN c (by omega) (by omega), h]
 cases decide (c.Kind = 8) <;> rfl
theorem rightC_B {N : Nat} (hN : 2000 < N) {c : DCell} (hS : c.Slots.length ≤ 600) (hM : c.More.length ≤ 600) : rightC N c = rightB c := by
 unfold rightC
 rw [right_spec N hN c (by omega) (by omega)]; rfl
section
variable {N : Nat} {ρ : Int → Int} {lv f : List Int} {c : DCell}
theorem clC_kind : (clC N lv c).Kind = c.Kind ∧ (clC N lv c).Shape = c.Shape ∧ (clC N lv c).Flags = c.Flags ∧ (clC N lv c).Slots = c.Slots := by
 unfold clC cleanW
 cases decide (c.Kind = 8) <;> cases decide (c.Kind = 10) <;> cases isWM N c <;> exact ⟨rfl, rfl, rfl, rfl⟩
theorem CellOk.new (hρ : Ren ρ f) (h : CellOk N lv f c) : rightB (movC ρ f (clC N lv c)) = true ∧ (movC ρ f (clC N lv c)).Slots.length ≤ 600 ∧ (movC ρ f (clC N lv c)).More.length ≤ 600 ∧ (movC ρ f (clC N lv c)).Kind = c.Kind := by
 have h1 := clC_len N lv c
 have h2 := h.slots
 have h3 := h.more
 exact ⟨mov_right hρ (clC_right N lv h.right), by unfold movC; simp only [List.length_map]; omega, by unfold movC; simp only [List.length_map]; omega, clC_kind.1⟩
theorem CellOk.ent2 (h : CellOk N lv f c) (h8 : c.Kind = 8) : entB2 c.More = true := by
 have := (right_parts h.right).2.2
 rw [h8] at this; exact this
theorem CellOk.ent4 (h : CellOk N lv f c) (h10 : c.Kind = 10) : 1 ≤ c.More.length ∧ (atL c.More 0).Kind = 7 ∧ entB4 (c.More.drop 1) = true := by
 have := (right_parts h.right).2.2
 rw [h10] at this
 have h3' : (decide (1 ≤ c.More.length) && decide ((atL c.More 0).Kind = 7) && entB4 (c.More.drop 1)) = true := this
 simp only [Bool.and_eq_true, decide_eq_true_eq] at h3'
 exact ⟨h3'.1.1, h3'.1.2, h3'.2⟩
theorem CellOk.wm (h : CellOk N lv f c) : isWM N c = decide (c.Kind = 8) := isWM_right h.big h.right h.slots h.more
theorem CellOk.clC8 (h : CellOk N lv f c) (h8 : c.Kind = 8) : clC N lv c = ⟨c.Kind, c.Shape, c.Flags, c.Age, c.Slots, cleanL (fun x => decide (x ∈ lv)) c.More⟩ := by
 unfold clC cleanW
 rw [h.wm, decide_eq_true h8]; rfl
theorem CellOk.clC10 (h10 : c.Kind = 10) : clC N lv c = ⟨c.Kind, c.Shape, c.Flags, c.Age, c.Slots, c.More.take 1 ++ keptE lv (c.More.drop 1)⟩ := by
 unfold clC
 rw [decide_eq_false (p := c.Kind = 8) (by omega), decide_eq_true h10]; rfl
theorem CellOk.clC0 (h8 : c.Kind ≠ 8) (h10 : c.Kind ≠ 10) : clC N lv c = c := by
 unfold clC
 rw [decide_eq_false h8, decide_eq_false h10]; rfl
theorem leads8 {c : DCell} (h8 : c.Kind = 8) : leadsL c = pick (fun _ v => hasB v) 0 c.Slots := by
 unfold leadsL
 have e : (fun (i : Nat) (v : DValue) => !weakB c.Kind i && hasB v) = fun _ _ => false := by
  funext i v
  unfold weakB
  rw [h8]; rfl
 rw [e, pick_none, List.append_nil]
theorem leads_map {ρ : Int → Int} {c : DCell} {f : List Int} (h : ∀ x ∈ leadsL c, x ∈ f) : leadsL (movC ρ f c) = (leadsL c).map ρ := by
 unfold leadsL at h ⊢
 rw [List.map_append]
 show pick (fun _ v => hasB v) 0 (c.Slots.map (movV ρ f)) ++ pick (fun i v => !weakB c.Kind i && hasB v) 0 (c.More.map (movV ρ f)) = _
 rw [pick_map (fun _ v => hasB v) (fun _ v => mov_has ρ f v) (fun _ _ h => h) 0 c.Slots fun x hx => h x (List.mem_append_left _ hx), pick_map (fun i v => !weakB c.Kind i && hasB v) (fun i v => by rw [mov_has]) (fun i v h => ((Bool.and_eq_true _ _).mp h).2) 0 c.More fun x hx => h x (List.mem_append_right _ hx)]
theorem CellOk.inC (h : CellOk N lv f c) : AddrIn f (clC N lv c).Slots ∧ AddrIn f (clC N lv c).More := by
 refine ⟨by rw [clC_kind.2.2.2]; exact slots_in h.leads, ?_⟩
 by_cases h8 : c.Kind = 8
 ·rw [h.clC8 h8]
  have ho := h.opens
  unfold opensL at ho
  rw [h.wm, decide_eq_true h8, cond_true] at ho
  exact cleanL_in h.mem (h.ent2 h8) ho
 ·by_cases h10 : c.Kind = 10
  ·rw [CellOk.clC10 h10]
   obtain ⟨q1, q2, q3⟩ := h.ent4 h10
   obtain ⟨a, r, hr⟩ : ∃ a r, c.More = a :: r := by
    cases hm : c.More with
    | nil => rw [hm] at q1; simp at q1
    | cons a r => exact ⟨a, r, rfl⟩
   rw [hr] at q3
   have q3' : entB4 r = true := q3
   intro v hv hb
   have hv' : v = a ∨ v ∈ keptE lv r := by
    have : v ∈ a :: keptE lv r := by rw [hr] at hv; exact hv
    exact List.mem_cons.1 this
   rcases hv' with rfl | hv'
   ·refine more_in h.leads (j := 0) (by rw [hr]; rfl) ?_ hb
    unfold weakB; rw [h10]; rfl
   ·refine kept_in h.mem q3' (fun j w hj hw => more_in h.leads (j := 4 * j + 2) (by rw [hr, show 4 * j + 2 = (4 * j + 1) + 1 by omega, List.getElem?_cons_succ]; exact hj) ?_ hw) v hv' hb
    unfold weakB
    rw [h10]
    have e1 : (((4 * j + 2 : Nat) : Int) - 1).tmod 4 = 1 := by rw [Int.tmod_eq_emod_of_nonneg (by omega)]; omega
    have e2 : ((1 : Int)).tmod 2 = 1 := rfl
    rw [e1, e2]
    cases decide ((0 : Int) < ((4 * j + 2 : Nat) : Int)) <;> rfl
  ·rw [CellOk.clC0 h8 h10]
   intro v hv hb
   obtain ⟨j, hj, e⟩ := List.getElem_of_mem hv
   exact more_in h.leads (j := j) (by rw [List.getElem?_eq_getElem hj, e]) (weak_other h8 h10 j) hb
end
end Go.Proofs.YtmbaennilhdieaaGreat
/- Plain: what is read is of a bounded size. -/
namespace Go.Proofs.YtmbaennilhdieaaGreat
open Go.RowKit
theorem reach_le : reachBytes ≤ 140737488355328 := by decide
theorem read_mem (m : DMemory) (roots : List DValue) (hm : wfwDMemory m) (hr : WfL (fun z => wfwDValue z) roots) : Bnd 140737488355328 m roots ∧ W64 m ∧ ∀ v ∈ roots, in64 v.N := by
 have hb := reach_le
 obtain ⟨⟨y1, y2⟩, o1, o2⟩ := hm
 have hc : ∀ c ∈ m.Young ++ m.Old, wfwDCell c := fun c hc => (List.mem_append.1 hc).elim (y2 c) (o2 c)
 refine ⟨⟨Nat.le_trans y1 hb, Nat.le_trans o1 hb, Nat.le_trans hr.1 hb, fun c h => ?_⟩, fun c h v hv => ?_, fun v hv => (hr.2 v hv).2.1⟩
 ·obtain ⟨-, -, -, -, s, t⟩ := hc c h
  exact ⟨Nat.le_trans s.1 hb, Nat.le_trans t.1 hb⟩
 ·obtain ⟨-, -, -, -, s, t⟩ := hc c h
  rcases List.mem_append.1 hv with hv | hv
  ·exact (s.2 v hv).2.1
  ·exact (t.2 v hv).2.1
end Go.Proofs.YtmbaennilhdieaaGreat
/- Plain: ReachAlike. -/
namespace Go.Proofs.YtmbaennilhdieaaGreat
open Go.RowKit
end Go.Proofs.YtmbaennilhdieaaGreat
/- Plain: the memory that a major collection leaves; it is isomorphic to what was reachable. -/
namespace Go.Proofs.YtmbaennilhdieaaGreat
open Go.RowKit
theorem addr_in {c : DCell} {v : DValue} (hv : v ∈ c.Slots ++ c.More) (hb : hasB v = true) : v.N ∈ addrC c := by
 unfold addrC
 rcases List.mem_append.1 hv with hv | hv
 ·exact List.mem_append_left _ (slots_in (f := leadsL c) (fun x hx => hx) v hv hb)
 ·obtain ⟨j, hj, e⟩ := List.getElem_of_mem hv
  cases hw : weakB c.Kind j with
  | false => exact List.mem_append_left _ (more_in (f := leadsL c) (fun x hx => hx) (by rw [List.getElem?_eq_getElem hj, e]) hw hb)
  | true => exact List.mem_append_right _ (pick_in (j := j) (by rw [List.getElem?_eq_getElem hj, e]) (by rw [Nat.zero_add, hw, hb]; rfl))
theorem opens_has {p : Int → Bool} {x : Int} : ∀ {l : List DValue}, x ∈ opens p l → ∃ v ∈ l, hasB v = true ∧ v.N = x
 | [], h => by simp [opens] at h
 | [_], h => by simp [opens] at h
 | k :: v :: l, h => by
  rw [opens_cons] at h
  rcases List.mem_append.1 h with h | h
  ·cases hv : hasB v && p k.N with
   | false => rw [hv] at h; cases h
   | true =>
    rw [hv] at h
    rw [Bool.and_eq_true] at hv
    exact ⟨v, by simp, hv.1, (List.mem_singleton.1 h).symm⟩
  ·obtain ⟨w, h1, h2⟩ := opens_has h
   exact ⟨w, by simp [h1], h2⟩
structure CollCtx (N : Nat) (m : DMemory) (roots : List DValue) (live f : List Int) : Prop where
 big : 5000 < N
 small : Small m roots
 tot : Wtd m roots
 w64 : W64 m
 r64 : ∀ v ∈ roots, in64 v.N
 lv : Live N m roots live f
 right : ∀ c ∈ m.Young ++ m.Old, rightB c = true
 addr : ∀ c ∈ m.Young ++ m.Old, ∀ x ∈ addrC c, hasM m x = true
 roots : ∀ x ∈ addrL roots, hasM m x = true
theorem ctx_of {N : Nat} (hN : 5000 < N) {m : DMemory} {roots : List DValue} (hs : Small m roots) (ht : Wtd m roots) (hw : W64 m) (hr : ∀ v ∈ roots, in64 v.N) {live f : List Int} (hl : Live N m roots live f) (h0 : checkM N m roots = 0) : CollCtx N m roots live f := by
 obtain ⟨h1, h2, h3⟩ := checkM_ok h0
 exact ⟨hN, hs, ht, hw, hr, hl, fun c hc => by have := hs.cells c hc; rw [← rightC_B (N := N) (by omega) this.1 this.2]; exact h1 c hc, h2, h3⟩
section
variable {N : Nat} {m : DMemory} {roots : List DValue} {live f : List Int} (h : CollCtx N m roots live f)
include h
theorem CollCtx.mem (x : Int) : x ∈ live ↔ x ∈ f := (h.lv.mem x).symm
theorem CollCtx.cell {a : Int} (ha : a ∈ f) : CellOk N live f (atM m a) := by
 have hm := atM_mem (h.lv.fhas ha)
 obtain ⟨b, all, ho, hlv, -⟩ := h.lv.ord
 have hall : ∀ x, x ∈ all ↔ x ∈ f := fun x => by rw [← h.mem x, hlv]; exact (sortL_mem all x).symm
 obtain ⟨q1, q2⟩ := ho.closed
 have hs := h.small.cells _ hm
 have hN := h.big
 refine ⟨by omega, h.right _ hm, hs.1, hs.2, fun x hx => ?_, fun x hx => ?_, h.mem⟩
 ·exact (hall x).1 (q1 a ((hall a).2 ha) x hx (h.addr _ hm x (List.mem_append_left _ hx)))
 ·have e : opensL N (atM m a) live = opensL N (atM m a) all := by
   unfold opensL
   rw [opens_congr (q := fun x => decide (x ∈ all)) fun x => dec_cast (by rw [h.mem x]; exact (hall x).symm)]
  rw [e] at hx
  refine (hall x).1 (q2 a ((hall a).2 ha) x hx ?_)
  unfold opensL at hx
  cases hw : isWM N (atM m a) with
  | false => rw [hw] at hx; cases hx
  | true =>
   rw [hw] at hx
   obtain ⟨v, hv, hb, rfl⟩ := opens_has hx
   exact h.addr _ hm _ (addr_in (List.mem_append_right _ hv) hb)
theorem CollCtx.root {x : Int} (hx : x ∈ addrL roots) : x ∈ f := by
 obtain ⟨b, all, ho, hlv, -⟩ := h.lv.ord
 rw [← h.mem x, hlv, sortL_mem]
 exact ho.sub (ho.roots hx (h.roots x hx))
theorem CollCtx.rootIn : AddrIn f roots := fun v hv hb => h.root (addrL_mem.2 ⟨v, hv, hb, rfl⟩)
end
def nextM (N : Nat) (m : DMemory) (live f : List Int) : DMemory := ⟨[], f.map fun a => movC (rho f) f (clC N live (atM m a))⟩
def rowG (N : Nat) (m : DMemory) (live f : List Int) (a : Int) : DCell := movC (rho f) f (clC N live (atM m a))
theorem next_has {N : Nat} {m : DMemory} {live f : List Int} {a : Int} (ha : a ∈ f) : hasM (nextM N m live f) (rho f a) = true := by
 unfold rho
 rw [hasM_o]
 exact decide_eq_true (by unfold nextM; simp only [List.length_map]; exact idx_lt ha)
theorem next_at {N : Nat} {m : DMemory} {live f : List Int} {a : Int} (ha : a ∈ f) : atM (nextM N m live f) (rho f a) = movC (rho f) f (clC N live (atM m a)) := by
 have e : rho f a = 2 * ((f.idxOf a : Nat) : Int) + 2 := rfl
 rw [e, atM_o _ _ (by unfold nextM; simp only [List.length_map]; exact idx_lt ha)]
 unfold nextM
 simp only [List.getElem_map]
 rw [idx_get ha]
theorem next_form {N : Nat} {m : DMemory} {live f : List Int} {x : Int} (hx : hasM (nextM N m live f) x = true) (hn : f.Nodup) : ∃ a ∈ f, x = rho f a := by
 rcases hasM_form hx with ⟨i, h1, rfl⟩ | ⟨i, h1, rfl⟩
 ·exact absurd h1 (by unfold nextM; simp)
 ·have hi : i < f.length := by unfold nextM at h1; simpa using h1
  refine ⟨f[i], List.getElem_mem _, ?_⟩
  unfold rho
  have hm : f[i] ∈ f := List.getElem_mem _
  have e : f.idxOf f[i] = i := by
   rcases Nat.lt_trichotomy (f.idxOf f[i]) i with h2 | h2 | h2
   ·exact absurd (idx_get hm) (List.pairwise_iff_getElem.1 (List.nodup_iff_pairwise_ne.1 hn) _ _ (idx_lt hm) hi h2)
   ·exact h2
   ·exact absurd (idx_get hm).symm (List.pairwise_iff_getElem.1 (List.nodup_iff_pairwise_ne.1 hn) _ _ hi (idx_lt hm) h2)
  rw [e]
theorem movV_in64 {f : List Int} {v : DValue} (hf : f.length ≤ 100000) (hv : in64 v.N) : in64 (movV (rho f) f v).N := by
 unfold movV
 cases hb : hasB v && decide (v.N ∈ f) with
 | false => exact hv
 | true =>
  rw [Bool.and_eq_true, decide_eq_true_eq] at hb
  have := idx_lt hb.2
  show in64 (rho f v.N)
  unfold rho in64; omega
theorem clC_mem {N : Nat} {lv : List Int} {c : DCell} {v : DValue} (hv : v ∈ (clC N lv c).Slots ++ (clC N lv c).More) : v ∈ c.Slots ++ c.More ∨ v = zeroV := by
 unfold clC at hv
 cases h8 : decide (c.Kind = 8) with
 | true => rw [h8] at hv; exact .inl (cleanW_mem hv)
 | false =>
  rw [h8] at hv
  cases h10 : decide (c.Kind = 10) with
  | false => rw [h10] at hv; exact .inl hv
  | true =>
   rw [h10] at hv
   have hv' : v ∈ c.Slots ++ (c.More.take 1 ++ keptE lv (c.More.drop 1)) := hv
   rcases List.mem_append.1 hv' with hv' | hv'
   ·exact .inl (List.mem_append_left _ hv')
   ·rcases List.mem_append.1 hv' with hv' | hv'
    ·exact .inl (List.mem_append_right _ (List.mem_of_mem_take hv'))
    ·rcases kept_mem lv hv' with hv' | hv'
     ·exact .inl (List.mem_append_right _ (List.mem_of_mem_drop hv'))
     ·exact .inr hv'
theorem told_mem {lv : List Int} {cb v : DValue} : ∀ {l : List DValue}, v ∈ toldE lv cb l → v = cb ∨ v ∈ l
 | [], h => by simp [toldE] at h
 | [_], h => by simp [toldE] at h
 | [_, _], h => by simp [toldE] at h
 | [_, _, _], h => by simp [toldE] at h
 | t :: a :: k :: s :: r, h => by
  simp only [toldE_cons] at h
  rcases List.mem_append.1 h with h | h
  ·cases hd : decide (t.N ∈ lv) with
   | true => rw [hd] at h; cases h
   | false => rw [hd] at h; simp at h; rcases h with h | h | h <;> subst h <;> simp
  ·rcases told_mem h with h | h
   ·exact .inl h
   ·exact .inr (by simp [h])
section
variable {N : Nat} {m : DMemory} {roots : List DValue} {live f : List Int} (h : CollCtx N m roots live f)
include h
theorem CollCtx.flen : f.length ≤ 1200 := by rw [h.lv.len]; exact h.lv.small
theorem CollCtx.flen6 : f.length ≤ 600 := by
 have h1 := sumF_sub (fun _ => 1) h.lv.nd fun a ha => mem_allA (h.lv.fhas ha)
 have h2 : ∀ l : List Int, sumF (fun _ => 1) l = l.length := fun l => by
  induction l with
  | nil => rfl
  | cons x l ih => rw [sumF, ih, List.length_cons]; omega
 rw [h2, h2] at h1
 have h3 := h.tot.cnt
 unfold allA at h1
 simp only [List.length_append, List.length_map, List.length_range] at h1
 omega
theorem CollCtx.nextW : W64 (nextM N m live f) := fun c hc v hv => by
 have hl := h.flen
 have hc' : c ∈ f.map fun a => movC (rho f) f (clC N live (atM m a)) := hc
 obtain ⟨a, ha, rfl⟩ := List.mem_map.1 hc'
 have hv' : v ∈ ((clC N live (atM m a)).Slots ++ (clC N live (atM m a)).More).map (movV (rho f) f) := by rw [List.map_append]; exact hv
 obtain ⟨w, hw, rfl⟩ := List.mem_map.1 hv'
 refine movV_in64 (by omega) ?_
 rcases clC_mem hw with hw | rfl
 ·exact h.w64.at_ a w hw
 ·show in64 0; unfold in64; omega
theorem CollCtx.nextS (l : List DValue) (hl : l.length ≤ 600) : Small (nextM N m live f) l := by
 refine ⟨Nat.zero_le _, ?_, hl, fun c hc => ?_⟩
 ·unfold nextM
  simp only [List.length_map]
  exact h.flen6
 ·have hc' : c ∈ f.map fun a => movC (rho f) f (clC N live (atM m a)) := hc
  obtain ⟨a, ha, rfl⟩ := List.mem_map.1 hc'
  obtain ⟨-, g2, g3, -⟩ := (CellOk.new (rho_ren f) (h.cell ha))
  exact ⟨g2, g3⟩
end
theorem addrL_mov {ρ : Int → Int} {f : List Int} : ∀ {l : List DValue}, AddrIn f l → addrL (l.map (movV ρ f)) = (addrL l).map ρ
 | [], _ => rfl
 | v :: l, h => by
  have ih := addrL_mov (ρ := ρ) (l := l) fun w hw => h w (by simp [hw])
  unfold addrL at ih ⊢
  rw [List.map_cons, List.filter_cons, List.filter_cons, mov_has]
  cases hb : hasB v with
  | false => exact ih
  | true =>
   simp only [if_true, List.map_cons, ih]
   rw [mov_in hb (h v (by simp) hb)]
theorem pick_has {F : Nat → DValue → Bool} {x : Int} (hB : ∀ i v, F i v = true → hasB v = true) : ∀ {i : Nat} {l : List DValue}, x ∈ pick F i l → ∃ v ∈ l, hasB v = true ∧ v.N = x
 | _, [], h => by cases h
 | i, v :: l, h => by
  rw [pick_cons] at h
  rcases List.mem_append.1 h with h | h
  ·cases hf : F i v with
   | false => rw [hf] at h; cases h
   | true => rw [hf] at h; exact ⟨v, by simp, hB i v hf, (List.mem_singleton.1 h).symm⟩
  ·obtain ⟨w, g1, g2⟩ := pick_has hB h
   exact ⟨w, by simp [g1], g2⟩
theorem addrC_has {c : DCell} {x : Int} (h : x ∈ addrC c) : ∃ v ∈ c.Slots ++ c.More, hasB v = true ∧ v.N = x := by
 unfold addrC leadsL weaklyL at h
 rcases List.mem_append.1 h with h | h
 ·rcases List.mem_append.1 h with h | h
  ·obtain ⟨v, g1, g2⟩ := pick_has (fun _ _ h => h) h; exact ⟨v, List.mem_append_left _ g1, g2⟩
  ·obtain ⟨v, g1, g2⟩ := pick_has (fun i v h => ((Bool.and_eq_true _ _).mp h).2) h; exact ⟨v, List.mem_append_right _ g1, g2⟩
 ·obtain ⟨v, g1, g2⟩ := pick_has (fun i v h => ((Bool.and_eq_true _ _).mp h).2) h; exact ⟨v, List.mem_append_right _ g1, g2⟩
section
variable {N : Nat} {m : DMemory} {roots : List DValue} {live f : List Int} (h : CollCtx N m roots live f)
include h
theorem CollCtx.now64 : ∀ v ∈ roots.map (movV (rho f) f), in64 v.N := fun v hv => by
 have hl := h.flen
 obtain ⟨w, hw, rfl⟩ := List.mem_map.1 hv
 exact movV_in64 (by omega) (h.r64 w hw)
theorem CollCtx.newHas {l : List DValue} (hl : AddrIn f l) {v : DValue} (hv : v ∈ l.map (movV (rho f) f)) (hb : hasB v = true) : hasM (nextM N m live f) v.N = true := by
 have _ := h
 obtain ⟨w, hw, rfl⟩ := List.mem_map.1 hv
 rw [mov_has] at hb
 have := hl w hw hb
 rw [mov_in hb this]
 exact next_has this
theorem CollCtx.nextAddr {c : DCell} (hc : c ∈ f.map fun a => movC (rho f) f (clC N live (atM m a))) : rightB c = true ∧ ∀ x ∈ addrC c, hasM (nextM N m live f) x = true := by
 obtain ⟨a, ha, rfl⟩ := List.mem_map.1 hc
 refine ⟨(CellOk.new (rho_ren f) (h.cell ha)).1, fun x hx => ?_⟩
 obtain ⟨v, hv, hb, rfl⟩ := addrC_has hx
 obtain ⟨i1, i2⟩ := (h.cell ha).inC
 rcases List.mem_append.1 hv with hv | hv
 ·exact h.newHas i1 hv hb
 ·exact h.newHas i2 hv hb
end
end Go.Proofs.YtmbaennilhdieaaGreat