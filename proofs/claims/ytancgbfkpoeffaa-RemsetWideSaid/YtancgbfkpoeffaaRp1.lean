/- Plain facts of the translated functions: few, and the example. -/
import Derived.Test.YtancgbfkpoeffaaR2
namespace Go.Proofs.Ytancgbfkpoeffaa
open Go.RowKit Go.ChangeShapes Go.WideShapes Go.Deep

theorem getE_nat {α : Type} (xs : List α) (i : Nat) : getE xs (i : Int) = xs[i]? := by
  unfold getE; rw [if_neg (by omega)]; simp
theorem req_pos {ρ : Type} {b : Prop} [Decidable b] {m : Option ρ} (h : b) : req b m = m := if_pos h
theorem in64_nat {n : Nat} (h : n < 9000000000000000000) : in64 (n : Int) := by unfold in64; omega
theorem few_l5 (N : Nat) (l : List DCell) (hl : l.length ≤ 60) : ∀ (m i n : Nat), l.length < m + i → i ≤ l.length → n ≤ i * 2000 → ∃ b, pantomimelaw21_few_l5 N l m (n : Int) (i : Int) = some b ∧ (b = true → ∀ x ∈ l.drop i, x.Slots.length ≤ 1000 ∧ x.More.length ≤ 1000)
  | 0, i, n, h, h2, _ => by omega
  | m + 1, i, n, h, h2, h3 => by
    rw [pantomimelaw21_few_l5_s]
    by_cases hi : i < l.length
    · have hd : (decide ((i : Int) < (l.length : Int))) = true := decide_eq_true (by omega)
      rw [hd, getE_nat, List.getElem?_eq_getElem hi]
      simp only [cond_true, Option.bind_some]
      by_cases hS : l[i].Slots.length ≤ 1000
      · by_cases hM : l[i].More.length ≤ 1000
        · have h5 : (decide ((1000 : Int) < (l[i].Slots.length : Int))) = false := decide_eq_false (by omega)
          have h6 : (decide ((1000 : Int) < (l[i].More.length : Int))) = false := decide_eq_false (by omega)
          simp only [h5, h6, cond_false, Option.bind_some]
          rw [req_pos (by unfold in64; omega), req_pos (by unfold in64; omega), req_pos (by unfold in64; omega)]
          obtain ⟨b, h7, h8⟩ := few_l5 N l hl m (i + 1) (n + (l[i].Slots.length + l[i].More.length)) (by omega) hi (by omega)
          refine ⟨b, ?_, fun hb x hx => ?_⟩
          · rw [← h7]; simp only [Int.natCast_add]; rfl
          · rw [List.drop_eq_getElem_cons hi] at hx
            rcases List.mem_cons.1 hx with rfl | hx
            · exact ⟨hS, hM⟩
            · exact h8 hb x hx
        · have h5 : (decide ((1000 : Int) < (l[i].Slots.length : Int))) = false := decide_eq_false (by omega)
          have h6 : (decide ((1000 : Int) < (l[i].More.length : Int))) = true := decide_eq_true (by omega)
          simp only [h5, h6, cond_false, cond_true, Option.bind_some]
          exact ⟨_, rfl, fun h => by cases h⟩
      · have h5 : (decide ((1000 : Int) < (l[i].Slots.length : Int))) = true := decide_eq_true (by omega)
        simp only [h5, cond_true, Option.bind_some]
        exact ⟨_, rfl, fun h => by cases h⟩
    · have hd : (decide ((i : Int) < (l.length : Int))) = false := decide_eq_false (by omega)
      rw [hd]
      simp only [cond_false, pantomimelaw21_few_j3]
      refine ⟨_, rfl, fun _ x hx => ?_⟩
      rw [List.drop_eq_nil_of_le (by omega)] at hx
      cases hx
theorem few_spec (N : Nat) (hN : 100 < N) (l : List DCell) : ∃ b, pantomimelaw21_few_O N l = some b ∧ (b = true → l.length ≤ 60 ∧ ∀ x ∈ l, x.Slots.length ≤ 1000 ∧ x.More.length ≤ 1000) := by
  unfold pantomimelaw21_few_O
  by_cases h : l.length ≤ 60
  · rw [show decide ((60 : Int) < (l.length : Int)) = false from decide_eq_false (by omega)]
    obtain ⟨b, h1, h2⟩ := few_l5 N l h N 0 0 (by omega) (by omega) (by omega)
    exact ⟨b, h1, fun hb => ⟨h, by simpa using h2 hb⟩⟩
  · rw [show decide ((60 : Int) < (l.length : Int)) = true from decide_eq_true (by omega)]
    exact ⟨_, rfl, fun h => by cases h⟩
end Go.Proofs.Ytancgbfkpoeffaa
