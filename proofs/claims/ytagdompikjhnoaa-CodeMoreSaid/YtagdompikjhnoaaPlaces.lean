/- The jump targets, as plain lists: ascending, in range, complete. No program is walked here. -/
import Derived.Test.YtagdompikjhnoaaTargets3
namespace Go.Proofs.Ytagdompikjhnoaa

theorem compUp (d : Array Int) (n : Nat) (hs : ∀ i j, i ≤ j → j < n → d[i]! ≤ d[j]!) : ∀ m, m ≤ n → (Lib.compactUpTo d m).Pairwise (· < ·) ∧ ∀ x, x ∈ Lib.compactUpTo d m ↔ ∃ j, j < m ∧ d[j]! = x
  | 0, _ => by simp [Lib.compactUpTo]
  | m + 1, hm => by
    obtain ⟨h1, h2⟩ := compUp d n hs m (by omega)
    rw [Lib.compactUpTo_succ]
    cases hk : Lib.keeps d m with
    | true =>
      simp only [if_true]
      constructor
      · rw [List.pairwise_append]
        refine ⟨h1, by simp, ?_⟩
        intro x hx y hy
        rw [List.mem_singleton.1 hy]
        obtain ⟨j, hj, rfl⟩ := (h2 x).1 hx
        have hm0 : m ≠ 0 := by omega
        have hne : d[m]! ≠ d[m - 1]! := by simpa [Lib.keeps, hm0] using hk
        have e1 := hs j (m - 1) (by omega) (by omega)
        have e2 := hs (m - 1) m (by omega) (by omega)
        omega
      · intro x
        rw [List.mem_append, h2, List.mem_singleton]
        constructor
        · rintro (⟨j, hj, rfl⟩ | rfl)
          · exact ⟨j, by omega, rfl⟩
          · exact ⟨m, by omega, rfl⟩
        · rintro ⟨j, hj, rfl⟩
          by_cases e : j = m
          · subst e; exact .inr rfl
          · exact .inl ⟨j, by omega, rfl⟩
    | false =>
      simp only [Bool.false_eq_true, if_false, List.append_nil]
      refine ⟨h1, fun x => ?_⟩
      rw [h2]
      have hm0 : m ≠ 0 := by rintro rfl; simp [Lib.keeps] at hk
      have he : d[m]! = d[m - 1]! := by simpa [Lib.keeps, hm0] using hk
      constructor
      · rintro ⟨j, hj, rfl⟩; exact ⟨j, by omega, rfl⟩
      · rintro ⟨j, hj, rfl⟩
        by_cases e : j = m
        · subst e; exact ⟨j - 1, by omega, he.symm⟩
        · exact ⟨j, by omega, rfl⟩

theorem compact_sort (zs : List Int) : (Lib.compact (sortL zs)).Pairwise (· < ·) ∧ ∀ x, x ∈ Lib.compact (sortL zs) ↔ x ∈ zs := by
  have hp : (sortL zs).Pairwise (fun a b => a ≤ b) := by
    have := List.pairwise_mergeSort (le := fun x y : Int => decide (x ≤ y)) (fun a b c h1 h2 => by simp at h1 h2 ⊢; omega) (fun a b => by simp; omega) zs
    exact this.imp (by simp)
  have hs : ∀ i j, i ≤ j → j < (sortL zs).length → (sortL zs).toArray[i]! ≤ (sortL zs).toArray[j]! := by
    intro i j hij hj
    rw [List.pairwise_iff_getElem] at hp
    have hi : i < (sortL zs).length := by omega
    simp only [List.getElem!_toArray, getElem!_pos, hi, hj]
    rcases Nat.lt_or_ge i j with h | h
    · exact hp i j hi hj h
    · have : i = j := by omega
      subst this
      exact Int.le_refl _
  obtain ⟨h1, h2⟩ := compUp (sortL zs).toArray (sortL zs).length hs (sortL zs).length (Nat.le_refl _)
  refine ⟨h1, fun x => (h2 x).trans ?_⟩
  have hm : x ∈ sortL zs ↔ x ∈ zs := List.mem_mergeSort
  rw [← hm, List.mem_iff_getElem]
  constructor
  · rintro ⟨j, hj, rfl⟩; exact ⟨j, hj, by simp [hj]⟩
  · rintro ⟨j, hj, rfl⟩; exact ⟨j, hj, by simp [hj]⟩

def Rng (c : CodeD) (zs : List Int) : Prop := ∀ z ∈ zs, 0 ≤ z ∧ z < c.ins.length
theorem nt_rng {c : CodeD} {zs : List Int} (h : Rng c zs) (n : Int) : Rng c (nt c zs n) := by
  unfold nt
  split
  · rename_i hi
    intro z hz
    rcases List.mem_append.1 hz with hz | hz
    · exact h z hz
    · rw [List.mem_singleton.1 hz]
      simp only [inB, Bool.and_eq_true, decide_eq_true_eq] at hi
      omega
  · exact h
theorem nt_sub (c : CodeD) (zs : List Int) (n : Int) : ∀ z ∈ zs, z ∈ nt c zs n := by
  intro z hz; unfold nt; split
  · exact List.mem_append_left _ hz
  · exact hz
theorem tI_rng {c : CodeD} {x : I4} {zs : List Int} (h : Rng c zs) : ∀ j, Rng c (tI c x zs j)
  | 0 => h
  | j + 1 => by
    unfold tI; split
    · exact nt_rng (tI_rng h j) _
    · exact tI_rng h j
theorem tI_sub (c : CodeD) (x : I4) (zs : List Int) : ∀ j, ∀ z ∈ zs, z ∈ tI c x zs j
  | 0, z, hz => hz
  | j + 1, z, hz => by
    have := tI_sub c x zs j z hz
    unfold tI; split
    · exact nt_sub _ _ _ _ this
    · exact this
theorem tAll_rng (c : CodeD) : ∀ k, k ≤ c.ins.length → Rng c (tAll c k)
  | 0, _ => by intro z hz; simp [tAll] at hz
  | k + 1, h => by rw [tAll_succ c k (by omega)]; exact tI_rng (tAll_rng c k (by omega)) 3
theorem tG_rng (c : CodeD) : ∀ k, k ≤ c.guards.length → Rng c (tG c k)
  | 0, _ => by have := tAll_rng c c.ins.length (Nat.le_refl _); simpa [tG] using this
  | k + 1, h => by rw [tG_succ c k (by omega)]; exact nt_rng (tG_rng c k (by omega)) _
theorem tAll_sub (c : CodeD) : ∀ k m, k ≤ m → m ≤ c.ins.length → ∀ z ∈ tAll c k, z ∈ tAll c m := by
  intro k m hkm
  induction m with
  | zero => intro _ z hz; have : k = 0 := by omega
            subst this; exact hz
  | succ m ih =>
    intro hm z hz
    by_cases e : k = m + 1
    · subst e; exact hz
    · rw [tAll_succ c m (by omega)]
      exact tI_sub _ _ _ 3 z (ih (by omega) (by omega) z hz)
theorem tG_sub (c : CodeD) : ∀ k, k ≤ c.guards.length → ∀ z ∈ tAll c c.ins.length, z ∈ tG c k
  | 0, _, z, hz => by simpa [tG] using hz
  | k + 1, h, z, hz => by rw [tG_succ c k (by omega)]; exact nt_sub _ _ _ _ (tG_sub c k (by omega) z hz)

theorem targets_rng (c : CodeD) : Rng c (targetsL c) := fun z hz => tG_rng c _ (Nat.le_refl _) z (((compact_sort _).2 z).1 hz)
theorem targets_asc (c : CodeD) : (targetsL c).Pairwise (· < ·) := (compact_sort _).1
theorem pt40 : pt 40 = [106, 45, 45] := by decide +kernel
theorem jump_in (c : CodeD) (k : Nat) (hk : k < c.ins.length) (h40 : c.ins[k].a = 40) (hr : rightB c = true) : c.ins[k].b ∈ targetsL c := by
  have hins : insB c c.ins[k] = true := by
    unfold rightB at hr
    simp only [Bool.and_eq_true] at hr
    have := hr.1.2
    unfold evB at this
    simp only [Bool.and_eq_true, List.all_eq_true] at this
    exact this.2 _ (List.getElem_mem _)
  have hin : inB c.ins[k].b 0 ((c.ins.length : Int) - 1) = true := by
    unfold insB at hins
    rw [h40, pt40] at hins
    simp only [Bool.and_eq_true] at hins
    have := hins.1.1
    simpa [partB] using this
  have hm : c.ins[k].b ∈ tAll c (k + 1) := by
    rw [tAll_succ c k hk]
    have hj : isJ (pt c.ins[k].a) 0 = true := by rw [h40, pt40]; rfl
    have h1 : c.ins[k].b ∈ tI c c.ins[k] (tAll c k) 1 := by
      simp only [tI, hj, if_true, nt, fld, hin]
      exact List.mem_append_right _ (List.mem_singleton.2 rfl)
    have h2 : tI c c.ins[k] (tAll c k) 3 = tI c c.ins[k] (tAll c k) 1 := by
      have e1 : isJ (pt c.ins[k].a) 1 = false := by rw [h40, pt40]; rfl
      have e2 : isJ (pt c.ins[k].a) 2 = false := by rw [h40, pt40]; rfl
      simp [tI, e1, e2]
    rw [h2]; exact h1
  exact ((compact_sort _).2 _).2 (tG_sub c _ (Nat.le_refl _) _ (tAll_sub c (k + 1) _ (by omega) (Nat.le_refl _) _ hm))
end Go.Proofs.Ytagdompikjhnoaa
