/- Plain: memories of a bounded size. -/
import Derived.Test.YtmbaennilhdieaaRq8
namespace Go.Proofs.Ytmbaennilhdieaa
open Go.RowKit

/-- lengths of what is read -/
structure Bnd (B : Nat) (m : DMemory) (roots : List DValue) : Prop where
  young : m.Young.length ≤ B
  old : m.Old.length ≤ B
  roots : roots.length ≤ B
  cells : ∀ c ∈ m.Young ++ m.Old, c.Slots.length ≤ B ∧ c.More.length ≤ B
theorem few_spec (N : Nat) (hN : 5000 < N) {m : DMemory} {roots : List DValue} (hb : Bnd 140737488355328 m roots) : Sat (pantomimeref19_Few_O N m roots) fun b => b = true → Small m roots := by
  have hy := hb.young; have ho := hb.old; have hr := hb.roots
  have old : ∀ p : Nat, p ≤ 300000000000000 → (p ≤ 600 → roots.length ≤ p ∧ m.Young.length ≤ p ∧ ∀ c ∈ m.Young, c.Slots.length ≤ p ∧ c.More.length ≤ p) → Sat (pantomimeref19_Few_j5 N m (p : Int)) fun b => b = true → Small m roots := by
    intro p hp hY
    unfold pantomimeref19_Few_j5
    refine loop_dec (fun f (s : Nat × Nat) => pantomimeref19_Few_l26 N m f (s.1 : Int) (s.2 : Int)) (fun s => 700 - s.1) (fun s => s.1 ≤ 300000000000000 ∧ s.2 ≤ m.Old.length ∧ (s.1 ≤ 600 → (roots.length ≤ s.1 ∧ m.Young.length ≤ s.1 ∧ ∀ c ∈ m.Young, c.Slots.length ≤ s.1 ∧ c.More.length ≤ s.1) ∧ s.2 ≤ s.1 ∧ ∀ c ∈ m.Old.take s.2, c.Slots.length ≤ s.1 ∧ c.More.length ≤ s.1)) _ ?_ N (p, 0) (by show 700 - p < N; omega) ⟨hp, Nat.zero_le _, fun h => ⟨hY h, Nat.zero_le _, by simp⟩⟩
    rintro f ⟨p, i⟩ ⟨h1, h2, h3⟩ go
    show Sat (pantomimeref19_Few_l26 N m (f + 1) (p : Int) (i : Int)) _
    simp only at h1 h2 h3
    rw [pantomimeref19_Few_l26_s]
    have fin : (i = m.Old.length ∨ 600 < p) → Sat (pantomimeref19_Few_j24 N (p : Int)) fun b => b = true → Small m roots := fun hh => sat_some fun hb2 => by
      have hp6 : (p : Int) ≤ 600 := of_decide_eq_true hb2
      obtain ⟨⟨k1, k2, k3⟩, k4, k5⟩ := h3 (by omega)
      have hi : i = m.Old.length := by omega
      subst hi
      rw [List.take_length] at k5
      exact ⟨by omega, by omega, by omega, fun c hc => by
        rcases List.mem_append.1 hc with hc | hc
        · have := k3 c hc; omega
        · have := k5 c hc; omega⟩
    by_cases hi : i < m.Old.length
    · rw [lt_t (by omega), ct, bs]
      refine sat_dec (fun h6 => ?_) fun h6 => fin (.inr (by omega))
      have hc := hb.cells m.Old[i] (by simp)
      rw [r64 (a := (p : Int) + 1) (by omega) (by omega), getE_n hi, bs, r64 (a := (p : Int) + 1 + (m.Old[i].Slots.length : Int)) (by omega) (by omega), bs, r64 (a := (p : Int) + 1 + (m.Old[i].Slots.length : Int) + (m.Old[i].More.length : Int)) (by omega) (by omega), r64 (a := (i : Int) + 1) (by omega) (by omega)]
      have hg := go (p + 1 + m.Old[i].Slots.length + m.Old[i].More.length, i + 1) (by show 700 - (p + 1 + m.Old[i].Slots.length + m.Old[i].More.length) < 700 - p; omega) ⟨by show p + 1 + m.Old[i].Slots.length + m.Old[i].More.length ≤ 300000000000000; omega, hi, fun h7 => by
        simp only at h7
        obtain ⟨⟨k1, k2, k3⟩, k4, k5⟩ := h3 (by omega)
        refine ⟨⟨by show _ ≤ _ + _; omega, by show _ ≤ _ + _; omega, fun c hc2 => by have := k3 c hc2; constructor <;> (show _ ≤ _ + _; omega)⟩, by show i + 1 ≤ _; omega, fun c hc2 => ?_⟩
        simp only at hc2
        rw [take_succ_get hi, List.mem_append, List.mem_singleton] at hc2
        rcases hc2 with hc2 | rfl
        · have := k5 c hc2; constructor <;> (show _ ≤ _ + _; omega)
        · constructor <;> (show _ ≤ _ + _; omega)⟩
      simpa using hg
    · rw [lt_f (by omega), cf, bs, cf]
      exact fin (.inl (by omega))
  unfold pantomimeref19_Few_O
  refine loop_dec (fun f (s : Nat × Nat) => pantomimeref19_Few_l7 N m f (s.1 : Int) (s.2 : Int)) (fun s => 700 - s.1) (fun s => s.1 ≤ 300000000000000 ∧ s.2 ≤ m.Young.length ∧ (s.1 ≤ 600 → roots.length ≤ s.1 ∧ s.2 ≤ s.1 ∧ ∀ c ∈ m.Young.take s.2, c.Slots.length ≤ s.1 ∧ c.More.length ≤ s.1)) _ ?_ N (roots.length, 0) (by show 700 - roots.length < N; omega) ⟨by show roots.length ≤ 300000000000000; omega, Nat.zero_le _, fun h => ⟨Nat.le_refl _, Nat.zero_le _, by simp⟩⟩
  rintro f ⟨p, i⟩ ⟨h1, h2, h3⟩ go
  show Sat (pantomimeref19_Few_l7 N m (f + 1) (p : Int) (i : Int)) _
  simp only at h1 h2 h3
  rw [pantomimeref19_Few_l7_s]
  by_cases hi : i < m.Young.length
  · rw [lt_t (by omega), ct, bs]
    refine sat_dec (fun h6 => ?_) fun h6 => old p h1 fun h7 => absurd h7 (by omega)
    have hc := hb.cells m.Young[i] (by simp)
    rw [r64 (a := (p : Int) + 1) (by omega) (by omega), getE_n hi, bs, r64 (a := (p : Int) + 1 + (m.Young[i].Slots.length : Int)) (by omega) (by omega), bs, r64 (a := (p : Int) + 1 + (m.Young[i].Slots.length : Int) + (m.Young[i].More.length : Int)) (by omega) (by omega), r64 (a := (i : Int) + 1) (by omega) (by omega)]
    have hg := go (p + 1 + m.Young[i].Slots.length + m.Young[i].More.length, i + 1) (by show 700 - (p + 1 + m.Young[i].Slots.length + m.Young[i].More.length) < 700 - p; omega) ⟨by show p + 1 + m.Young[i].Slots.length + m.Young[i].More.length ≤ 300000000000000; omega, hi, fun h7 => by
      simp only at h7
      obtain ⟨k1, k4, k5⟩ := h3 (by omega)
      refine ⟨by show _ ≤ _ + _; omega, by show i + 1 ≤ _; omega, fun c hc2 => ?_⟩
      simp only at hc2
      rw [take_succ_get hi, List.mem_append, List.mem_singleton] at hc2
      rcases hc2 with hc2 | rfl
      · have := k5 c hc2; constructor <;> (show _ ≤ _ + _; omega)
      · constructor <;> (show _ ≤ _ + _; omega)⟩
    simpa using hg
  · rw [lt_f (by omega), cf, bs, cf]
    have hie : i = m.Young.length := by omega
    subst hie
    refine old p h1 fun h7 => ?_
    obtain ⟨k1, k4, k5⟩ := h3 h7
    rw [List.take_length] at k5
    exact ⟨k1, k4, k5⟩
end Go.Proofs.Ytmbaennilhdieaa
