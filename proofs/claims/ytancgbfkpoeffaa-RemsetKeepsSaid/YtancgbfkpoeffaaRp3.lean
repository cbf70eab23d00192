/- Plain: the example of the specification, and a nil set. -/
import Derived.Test.YtancgbfkpoeffaaRp2
namespace Go.Proofs.Ytancgbfkpoeffaa
open Go.RowKit Go.ChangeShapes Go.WideShapes Go.Deep

theorem old_spec (N : Nat) (n : Int) : remset_old_O N n = some (decide (0 < n) && decide (n.tmod 2 = 0)) := by
  unfold remset_old_O; cases decide (0 < n) <;> rfl
theorem note_spec (N : Nat) (hN : 5000 < N) (s : DSet) (n : Int) (c : DCell) (hS : c.Slots.length ≤ 1000) (hc : c.More.length ≤ 1000) : remset_Set_Note_O N s n c = some (if 0 < n ∧ n.tmod 2 = 0 then (if youngS c = true then (true, ⟨upL s.at_ n true⟩) else (false, ⟨delL s.at_ n⟩)) else (false, s)) := by
  unfold remset_Set_Note_O remset_Set_Note_j10
  rw [old_spec, Option.bind_some, leads_spec N hN c hS hc, Option.bind_some]
  by_cases h1 : 0 < n <;> by_cases h2 : n.tmod 2 = 0 <;> cases youngS c <;> simp [h1, h2]
theorem list_spec (N : Nat) (s : DSet) (h1 : ∀ k ∈ s.at_.map Prod.fst, in64 k) (h2 : (s.at_.map Prod.fst).Nodup) (h3 : s.at_.length ≤ 5000) : remset_Set_List_O N s = some (keysL s.at_) := by
  unfold remset_Set_List_O maps_Keys_O slices_Sorted_O
  rw [Option.bind_some, req_pos ⟨h1, h2, by unfold fitsL; omega⟩, Option.bind_some]
theorem lives_spec (N : Nat) (hN : 5000 < N) : pantomimelaw21_lives_O N = some true := by
  have k3 : youngS ⟨1, 0, 0, 0, [⟨7, 3, ⟨#[]⟩⟩], []⟩ = true := by decide
  have k2 : youngS ⟨1, 0, 0, 0, [⟨7, 2, ⟨#[]⟩⟩], []⟩ = false := by decide
  have kk : keysL [((4 : Int), true)] = [4] := by unfold keysL; simp
  have n1 := note_spec N hN ⟨[]⟩ 4 ⟨1, 0, 0, 0, [⟨7, 3, ⟨#[]⟩⟩], []⟩ (by decide) (by decide)
  have n2 := note_spec N hN ⟨[(4, true)]⟩ 4 ⟨1, 0, 0, 0, [⟨7, 2, ⟨#[]⟩⟩], []⟩ (by decide) (by decide)
  have l1 := list_spec N ⟨[(4, true)]⟩ (by intro k hk; simp at hk; subst hk; decide) (by simp) (by simp)
  rw [if_pos (by decide), if_pos k3] at n1
  rw [if_pos (by decide), if_neg (by rw [k2]; decide)] at n2
  have e1 : (⟨upL (DSet.at_ ⟨[]⟩) 4 true⟩ : DSet) = ⟨[(4, true)]⟩ := rfl
  have e2 : (⟨delL (DSet.at_ ⟨[(4, true)]⟩) 4⟩ : DSet) = ⟨[]⟩ := rfl
  rw [e1] at n1
  rw [e2] at n2
  unfold pantomimelaw21_lives_O remset_New_O pantomimelaw21_object_O remset_Set_Len_O
  rw [Option.bind_some, Option.bind_some, n1, Option.bind_some, l1, Option.bind_some, Option.bind_some, n2, Option.bind_some]
  simp only [kk]
  rfl
theorem nobody_spec (N : Nat) (hN : 5000 < N) (n : Int) (m : DMemory) : pantomimelaw21_RemsetNobody_O N n m = some true := by
  obtain ⟨b1, f1, -⟩ := few_spec N (by omega) m.Young
  obtain ⟨b2, f2, -⟩ := few_spec N (by omega) m.Old
  unfold pantomimelaw21_RemsetNobody_O remset_Set_Clear_n_O remset_Set_Renew_n_O pantomimelaw21_object_O remset_Set_Note_n_O remset_Set_List_n_O remset_Set_Len_n_O
  rw [f1, f2, lives_spec N hN]
  cases b1 <;> cases b2 <;> rfl
end Go.Proofs.Ytancgbfkpoeffaa
