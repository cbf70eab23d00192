/- Plain: cells at addresses, on both sides. -/
import Derived.Test.YtmbaennilhdieaaRq1
namespace Go.Proofs.Ytmbaennilhdieaa
open Go.RowKit

def zeroC : DCell := ⟨0, 0, 0, 0, [], []⟩
def cellAt (m : DMemory) (a : Int) : Option DCell := if a < 1 then none else if a % 2 = 1 then m.Young[((a - 1) / 2).toNat]? else m.Old[((a - 2) / 2).toNat]?
def hasM (m : DMemory) (a : Int) : Bool := (cellAt m a).isSome
def atM (m : DMemory) (a : Int) : DCell := (cellAt m a).getD zeroC
/-- lengths that the examples of the law admit -/
structure Small (m : DMemory) (roots : List DValue) : Prop where
  young : m.Young.length ≤ 600
  old : m.Old.length ≤ 600
  roots : roots.length ≤ 600
  cells : ∀ c ∈ m.Young ++ m.Old, c.Slots.length ≤ 600 ∧ c.More.length ≤ 600
theorem cellAt_mem {m : DMemory} {a : Int} {c : DCell} (h : cellAt m a = some c) : c ∈ m.Young ++ m.Old := by
  unfold cellAt at h
  split at h
  · cases h
  · split at h
    · exact List.mem_append_left _ (List.mem_of_getElem? h)
    · exact List.mem_append_right _ (List.mem_of_getElem? h)
theorem Small.at_ {m : DMemory} {roots : List DValue} (h : Small m roots) (a : Int) : (atM m a).Slots.length ≤ 600 ∧ (atM m a).More.length ≤ 600 := by
  unfold atM
  cases hc : cellAt m a with
  | none => exact ⟨by simp [zeroC], by simp [zeroC]⟩
  | some c => exact h.cells c (cellAt_mem hc)
theorem hasM_pos {m : DMemory} {a : Int} (h : hasM m a = true) : 0 < a := by
  unfold hasM cellAt at h
  split at h
  · cases h
  · omega
theorem hasM_le {m : DMemory} {roots : List DValue} (hs : Small m roots) {a : Int} (h : hasM m a = true) : a ≤ 1200 := by
  have h1 := hs.young; have h2 := hs.old
  unfold hasM cellAt at h
  split at h
  · cases h
  · split at h
    · have := (List.getElem?_eq_some_iff.1 (Option.isSome_iff_exists.1 h).choose_spec).1
      omega
    · have := (List.getElem?_eq_some_iff.1 (Option.isSome_iff_exists.1 h).choose_spec).1
      omega
theorem tdiv2 {a : Int} (h : 0 ≤ a) : a.tdiv 2 = a / 2 := Int.tdiv_eq_ediv_of_nonneg h
theorem tmod2 {a : Int} (h : 0 ≤ a) : a.tmod 2 = a % 2 := Int.tmod_eq_emod_of_nonneg h
theorem isSome_lt {α : Type} (l : List α) (i : Nat) : (l[i]?).isSome = decide ((i : Int) < (l.length : Int)) := by
  by_cases h : i < l.length
  · rw [List.getElem?_eq_getElem h, decide_eq_true (by omega)]; rfl
  · rw [List.getElem?_eq_none (by omega), decide_eq_false (by omega)]; rfl
/-- which row, and which place in it -/
theorem addr_cases (m : DMemory) (a : Int) : (a < 1 ∧ cellAt m a = none) ∨ (∃ k : Nat, a = 2 * (k : Int) + 1 ∧ cellAt m a = m.Young[k]?) ∨ (∃ k : Nat, a = 2 * (k : Int) + 2 ∧ cellAt m a = m.Old[k]?) := by
  by_cases h : a < 1
  · exact .inl ⟨h, by unfold cellAt; rw [if_pos h]⟩
  · by_cases h2 : a % 2 = 1
    · refine .inr (.inl ⟨((a - 1) / 2).toNat, by omega, ?_⟩)
      unfold cellAt; rw [if_neg h, if_pos h2]
    · refine .inr (.inr ⟨((a - 2) / 2).toNat, by omega, ?_⟩)
      unfold cellAt; rw [if_neg h, if_neg h2]
theorem tdiv_in64 {a : Int} (h : in64 a) : -4611686018427387904 ≤ a.tdiv 2 ∧ a.tdiv 2 ≤ 4611686018427387904 := by
  unfold in64 at h
  by_cases h0 : 0 ≤ a
  · rw [tdiv2 h0]; omega
  · have h1 : (-a).tdiv 2 = -(a.tdiv 2) := Int.neg_tdiv a 2
    rw [tdiv2 (by omega)] at h1
    omega
theorem place_spec (N : Nat) (m : DMemory) (a : Int) (h : in64 a) : Sat (reach_place_O N m a) fun r => r.2.2 = hasM m a ∧ (hasM m a = true → getE r.1 r.2.1 = cellAt m a) := by
  have hd := tdiv_in64 h
  unfold reach_place_O
  rw [r64 (by omega) (by omega)]
  unfold reach_place_j5 hasM
  rcases addr_cases m a with ⟨h1, h2⟩ | ⟨k, h1, h2⟩ | ⟨k, h1, h2⟩
  · rw [h2]
    refine sat_dec (fun _ => ?_) fun _ => ?_
    · rw [r64 (by omega) (by omega), r64 (by omega) (by omega), lt_f (a := 0) (b := a) (by omega), cf, bs]
      exact sat_some ⟨rfl, fun h => by cases h⟩
    · rw [lt_f (a := 0) (b := a) (by omega), cf, bs]
      exact sat_some ⟨rfl, fun h => by cases h⟩
  · subst h1
    rw [h2, tmod2 (by omega), tdiv2 (by omega), eq_f (by omega), cf, lt_t (by omega), ct, bs, show (2 * (k : Int) + 1) / 2 = k by omega]
    exact sat_some ⟨(isSome_lt _ _).symm, fun _ => getE_nat _ _⟩
  · subst h1
    rw [h2, tmod2 (by omega), tdiv2 (by omega), eq_t (by omega), ct, lt_t (by omega), ct, bs, show (2 * (k : Int) + 2) / 2 - 1 = k by omega]
    rw [r64 (by omega) (by omega), r64 (by omega) (by omega)]
    exact sat_some ⟨(isSome_lt _ _).symm, fun _ => getE_nat _ _⟩
theorem has_prog (N : Nat) (m : DMemory) (a : Int) (h : in64 a) : reach_Has_O N m a = some (hasM m a) := by
  obtain ⟨r, h1, h2, -⟩ := place_spec N m a h
  unfold reach_Has_O
  rw [h1, bs, h2]
theorem copy_spec (N : Nat) (c : DCell) (h : c.Slots.length ≤ 600 ∧ c.More.length ≤ 600) : cell_Copy_O N c = some c := by
  unfold cell_Copy_O slices_Clone_O
  rw [rF (by simp; omega), bs, rF (by simp; omega), bs]
  rfl
theorem at_prog (N : Nat) {m : DMemory} {roots : List DValue} (hs : Small m roots) (a : Int) (h : in64 a) : reach_At_O N m a = some (atM m a) := by
  obtain ⟨r, h1, h2, h3⟩ := place_spec N m a h
  unfold reach_At_O atM
  rw [h1, bs, h2]
  unfold hasM at *
  cases hc : cellAt m a with
  | none => rfl
  | some c =>
    have h4 := h3 (by rw [hc]; rfl)
    rw [hc] at h4
    have h5 := copy_spec N c (hs.cells c (cellAt_mem hc))
    simp only [Option.isSome_some, nt, cf, h4, bs, h5]
    rfl
end Go.Proofs.Ytmbaennilhdieaa
