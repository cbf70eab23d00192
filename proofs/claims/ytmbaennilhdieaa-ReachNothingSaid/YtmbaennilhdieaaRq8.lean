/- Plain: sorted addresses, the examples, small memories. -/
import Derived.Test.YtmbaennilhdieaaRs2
namespace Go.Proofs.Ytmbaennilhdieaa
open Go.RowKit

theorem sortL_mem (l : List Int) (x : Int) : x ∈ sortL l ↔ x ∈ l := by unfold sortL; exact List.mem_mergeSort
theorem sortL_asc {l : List Int} (h : l.Nodup) : (sortL l).Pairwise (· < ·) := by
  have h1 : (sortL l).Pairwise fun a b => decide (a ≤ b) = true := List.pairwise_mergeSort (by intro a b c h1 h2; simp at *; omega) (by intro a b; simp; omega) l
  have h2 : (sortL l).Nodup := (List.mergeSort_perm l _).nodup_iff.2 h
  rw [List.nodup_iff_pairwise_ne] at h2
  exact h1.imp₂ (fun a b h3 h4 => by simp at h3; omega) h2
theorem sortL_eq {l s : List Int} (h : l.Nodup) (hs : s.Pairwise (· < ·)) (he : ∀ x, x ∈ l ↔ x ∈ s) : sortL l = s := asc_ext (sortL_asc h) hs fun x => (sortL_mem l x).trans (he x)
theorem sort_spec (N : Nat) (l : List Int) (h : l.length ≤ 5000) : slices_Sort_O N l = some (sortL l) := by
  unfold slices_Sort_O; rw [rF (by omega)]
theorem values_spec (N : Nat) (l : List Int) (hl : l.length ≤ 2000) : ∀ (m i : Nat) (s : List Int), l.length < m + i → i ≤ l.length → s.length ≤ i → slices_Values_l3 N (liftR (fun x st => slices_AppendSeq_V_b5 N x st)) l m (i : Int) (none, s) = some (none, s ++ l.drop i)
  | 0, i, s, h, h2, _ => by omega
  | m + 1, i, s, h, h2, h3 => by
    rw [slices_Values_l3_s]
    by_cases hi : i < l.length
    · have e : liftR (fun x st => slices_AppendSeq_V_b5 N x st) l[i] (none, s) = some (true, (none, s ++ [l[i]])) := by
        unfold liftR slices_AppendSeq_V_b5
        simp only
        rw [rF (by simp; omega)]
        rfl
      rw [lt_t (by omega), ct, getE_n hi, bs, e, bs]
      simp only [nt, cf]
      rw [r64 (by omega) (by omega)]
      have := values_spec N l hl m (i + 1) (s ++ [l[i]]) (by omega) hi (by simp; omega)
      simp only [Int.natCast_add, Int.cast_ofNat_Int] at this
      rw [this, List.drop_eq_getElem_cons hi, List.append_assoc]; rfl
    · rw [lt_f (by omega), cf, List.drop_eq_nil_of_le (by omega)]
      simp
theorem sorted_spec (N : Nat) (hN : 5000 < N) (l : List Int) (hl : l.length ≤ 2000) : slices_Sorted_V_O N l = some (sortL l) := by
  have h := values_spec N l hl N 0 [] (by omega) (by omega) (by simp)
  have h' : slices_Values_l3 N (liftR (fun x st => slices_AppendSeq_V_b5 N x st)) l N 0 (none, []) = some (none, [] ++ l.drop 0) := h
  have e1 : slices_AppendSeq_V_O N [] l = some l := by
    unfold slices_AppendSeq_V_O slices_Values_O
    rw [h', bs]; rfl
  unfold slices_Sorted_V_O slices_Collect_V_O
  rw [e1, bs, bs, sort_spec N l (by omega), bs]

def obj (n : Int) : DValue := ⟨7, n, ⟨#[]⟩⟩
def boxC' (l : List DValue) : DCell := ⟨11, 0, 0, 0, [], l⟩
def exM : DMemory := ⟨[⟨11, 0, 0, 0, [], [⟨7, 3, ⟨#[]⟩⟩, ⟨7, 2, ⟨#[]⟩⟩]⟩, ⟨11, 0, 0, 0, [], []⟩], [⟨11, 0, 0, 0, [], []⟩]⟩
def exW : DMemory := ⟨[⟨8, 0, 0, 0, [⟨1, 0, ⟨#[]⟩⟩], [⟨7, 3, ⟨#[]⟩⟩, ⟨7, 5, ⟨#[]⟩⟩]⟩, ⟨11, 0, 0, 0, [], []⟩, ⟨11, 0, 0, 0, [], []⟩], []⟩
theorem g1 : reach_Order_O 6000 exM [⟨7, 1, ⟨#[]⟩⟩] = some [1, 3, 2] := by kernel_rfl
theorem g2 : reach_Order_O 6000 exW [⟨7, 1, ⟨#[]⟩⟩] = some [1] := by kernel_rfl
theorem g3 : reach_Order_O 6000 exW [⟨7, 1, ⟨#[]⟩⟩, ⟨7, 3, ⟨#[]⟩⟩] = some [1, 3, 5] := by kernel_rfl
theorem g4 : reach_begin_O 6000 exW [⟨7, 1, ⟨#[]⟩⟩, ⟨7, 3, ⟨#[]⟩⟩] = some ⟨exW, [1, 3], [(1, ()), (3, ())], 2⟩ := by kernel_rfl
theorem live_of {N : Nat} {m : DMemory} {roots : List DValue} {l s : List Int} (h : reach_Order_O N m roots = some l) (hl : l.length ≤ 5000) (hs : sortL l = s) : reach_Live_O N m roots = some s := by
  unfold reach_Live_O
  rw [h, bs, sort_spec N l hl, bs, hs]
theorem goes_true : pantomimelaw19_goes_O 6000 = some true := by
  have l1 : reach_Live_O 6000 exM [⟨7, 1, ⟨#[]⟩⟩] = some [1, 2, 3] := live_of g1 (by decide) (sortL_eq (by decide) (by decide) (by intro x; simp; omega))
  have l2 : reach_Live_O 6000 exW [⟨7, 1, ⟨#[]⟩⟩] = some [1] := live_of g2 (by decide) (sortL_eq (by decide) (by decide) (by intro x; simp))
  have l3 : reach_Live_O 6000 exW [⟨7, 1, ⟨#[]⟩⟩, ⟨7, 3, ⟨#[]⟩⟩] = some [1, 3, 5] := live_of g3 (by decide) (sortL_eq (by decide) (by decide) (by intro x; simp))
  have l4 : reach_Strong_O 6000 exW [⟨7, 1, ⟨#[]⟩⟩, ⟨7, 3, ⟨#[]⟩⟩] = some [1, 3] := by
    unfold reach_Strong_O slices_Values_54_O
    rw [g4, bs, bs, sorted_spec 6000 (by decide) _ (by decide), bs]
    exact congrArg some (sortL_eq (by decide) (by decide) (by intro x; simp))
  have s1 : pantomimeref19_Same_O 6000 [1, 3, 2] [1, 3, 2] = some true := by kernel_rfl
  have s2 : pantomimeref19_Same_O 6000 [1, 2, 3] [1, 2, 3] = some true := by kernel_rfl
  have s3 : pantomimeref19_Same_O 6000 [1] [1] = some true := by kernel_rfl
  have s4 : pantomimeref19_Same_O 6000 [1, 3, 5] [1, 3, 5] = some true := by kernel_rfl
  have s5 : pantomimeref19_Same_O 6000 [1, 3] [1, 3] = some true := by kernel_rfl
  have o : ∀ n, pantomimelaw19_object_O 6000 n = some ⟨7, n, ⟨#[]⟩⟩ := fun _ => rfl
  have g1' := g1
  unfold exM at g1' l1
  unfold exW at l2 l3 l4
  unfold pantomimelaw19_goes_O
  simp only [o, bs, g1', l1, l2, l3, l4, s1, s2, s3, s4, s5, ct]
end Go.Proofs.Ytmbaennilhdieaa
