/- Plain: what must be reachable is reachable. -/
import Derived.Test.YtmbaennilhdieaaRq8
namespace Go.Proofs.Ytmbaennilhdieaa
open Go.RowKit

/-- lengths of what is read -/
structure Bnd (B : Nat) (m : DMemory) (roots : List DValue) : Prop where
  young : m.Young.length ≤ B
  old : m.Old.length ≤ B
  roots : roots.length ≤ B
  cells : ∀ c ∈ m.Young ++ m.Old, c.Slots.length ≤ B ∧ c.More.length ≤ B
theorem few_spec (N : Nat) (hN : 5000 < N) {m : DMemory} {roots : List DValue} (hb : Bnd 140737488355328 m roots) : Sat (pantomimeref19_Few_O N m roots) fun b => b = true → Small m roots := by
  have hy := hb.young; have ho := hb.old; have hr := hb.roots
  have old : ∀ p : Nat, p ≤ 300000000000000 → (p ≤ 600 → roots.length ≤ p ∧ m.Young.length ≤ p ∧ ∀ c ∈ m.Young, c.Slots.length ≤ p ∧ c.More.length ≤ p) → Sat (pantomimeref19_Few_j5 N m (p : Int)) fun b => b = true → Small m roots := by
    intro p hp hY
    unfold pantomimeref19_Few_j5
    refine loop_dec (fun f (s : Nat × Nat) => pantomimeref19_Few_l26 N m f (s.1 : Int) (s.2 : Int)) (fun s => 700 - s.1) (fun s => s.1 ≤ 300000000000000 ∧ s.2 ≤ m.Old.length ∧ (s.1 ≤ 600 → (roots.length ≤ s.1 ∧ m.Young.length ≤ s.1 ∧ ∀ c ∈ m.Young, c.Slots.length ≤ s.1 ∧ c.More.length ≤ s.1) ∧ s.2 ≤ s.1 ∧ ∀ c ∈ m.Old.take s.2, c.Slots.length ≤ s.1 ∧ c.More.length ≤ s.1)) _ ?_ N (p, 0) (by show 700 - p < N; omega) ⟨hp, Nat.zero_le _, fun h => ⟨hY h, Nat.zero_le _, by simp⟩⟩
    rintro f ⟨p, i⟩ ⟨h1, h2, h3⟩ go
    show Sat (pantomimeref19_Few_l26 N m (f + 1) (p : Int) (i : Int)) _
    simp only at h1 h2 h3
    rw [pantomimeref19_Few_l26_s]
    have fin : (i = m.Old.length ∨ 600 < p) → Sat (pantomimeref19_Few_j24 N (p : Int)) fun b => b = true → Small m roots := fun hh => sat_some fun hb2 => by
      have hp6 : (p : Int) ≤ 600 := of_decide_eq_true hb2
      obtain ⟨⟨k1, k2, k3⟩, k4, k5⟩ := h3 (by omega)
      have hi : i = m.Old.length := by omega
      subst hi
      rw [List.take_length] at k5
      exact ⟨by omega, by omega, by omega, fun c hc => by
        rcases List.mem_append.1 hc with hc | hc
        · have := k3 c hc; omega
        · have := k5 c hc; omega⟩
    by_cases hi : i < m.Old.length
    · rw [lt_t (by omega), ct, bs]
      refine sat_dec (fun h6 => ?_) fun h6 => fin (.inr (by omega))
      have hc := hb.cells m.Old[i] (by simp)
      rw [r64 (a := (p : Int) + 1) (by omega) (by omega), getE_n hi, bs, r64 (a := (p : Int) + 1 + (m.Old[i].Slots.length : Int)) (by omega) (by omega), bs, r64 (a := (p : Int) + 1 + (m.Old[i].Slots.length : Int) + (m.Old[i].More.length : Int)) (by omega) (by omega), r64 (a := (i : Int) + 1) (by omega) (by omega)]
      have hg := go (p + 1 + m.Old[i].Slots.length + m.Old[i].More.length, i + 1) (by show 700 - (p + 1 + m.Old[i].Slots.length + m.Old[i].More.length) < 700 - p; omega) ⟨by show p + 1 + m.Old[i].Slots.length + m.Old[i].More.length ≤ 300000000000000; omega, hi, fun h7 => by
        simp only at h7
        obtain ⟨⟨k1, k2, k3⟩, k4, k5⟩ := h3 (by omega)
        refine ⟨⟨by show _ ≤ _ + _; omega, by show _ ≤ _ + _; omega, fun c hc2 => by have := k3 c hc2; constructor <;> (show _ ≤ _ + _; omega)⟩, by show i + 1 ≤ _; omega, fun c hc2 => ?_⟩
        simp only at hc2
        rw [take_succ_get hi, List.mem_append, List.mem_singleton] at hc2
        rcases hc2 with hc2 | rfl
        · have := k5 c hc2; constructor <;> (show _ ≤ _ + _; omega)
        · constructor <;> (show _ ≤ _ + _; omega)⟩
      simpa using hg
    · rw [lt_f (by omega), cf, bs, cf]
      exact fin (.inl (by omega))
  unfold pantomimeref19_Few_O
  refine loop_dec (fun f (s : Nat × Nat) => pantomimeref19_Few_l7 N m f (s.1 : Int) (s.2 : Int)) (fun s => 700 - s.1) (fun s => s.1 ≤ 300000000000000 ∧ s.2 ≤ m.Young.length ∧ (s.1 ≤ 600 → roots.length ≤ s.1 ∧ s.2 ≤ s.1 ∧ ∀ c ∈ m.Young.take s.2, c.Slots.length ≤ s.1 ∧ c.More.length ≤ s.1)) _ ?_ N (roots.length, 0) (by show 700 - roots.length < N; omega) ⟨by show roots.length ≤ 300000000000000; omega, Nat.zero_le _, fun h => ⟨Nat.le_refl _, Nat.zero_le _, by simp⟩⟩
  rintro f ⟨p, i⟩ ⟨h1, h2, h3⟩ go
  show Sat (pantomimeref19_Few_l7 N m (f + 1) (p : Int) (i : Int)) _
  simp only at h1 h2 h3
  rw [pantomimeref19_Few_l7_s]
  by_cases hi : i < m.Young.length
  · rw [lt_t (by omega), ct, bs]
    refine sat_dec (fun h6 => ?_) fun h6 => old p h1 fun h7 => absurd h7 (by omega)
    have hc := hb.cells m.Young[i] (by simp)
    rw [r64 (a := (p : Int) + 1) (by omega) (by omega), getE_n hi, bs, r64 (a := (p : Int) + 1 + (m.Young[i].Slots.length : Int)) (by omega) (by omega), bs, r64 (a := (p : Int) + 1 + (m.Young[i].Slots.length : Int) + (m.Young[i].More.length : Int)) (by omega) (by omega), r64 (a := (i : Int) + 1) (by omega) (by omega)]
    have hg := go (p + 1 + m.Young[i].Slots.length + m.Young[i].More.length, i + 1) (by show 700 - (p + 1 + m.Young[i].Slots.length + m.Young[i].More.length) < 700 - p; omega) ⟨by show p + 1 + m.Young[i].Slots.length + m.Young[i].More.length ≤ 300000000000000; omega, hi, fun h7 => by
      simp only at h7
      obtain ⟨k1, k4, k5⟩ := h3 (by omega)
      refine ⟨by show _ ≤ _ + _; omega, by show i + 1 ≤ _; omega, fun c hc2 => ?_⟩
      simp only at hc2
      rw [take_succ_get hi, List.mem_append, List.mem_singleton] at hc2
      rcases hc2 with hc2 | rfl
      · have := k5 c hc2; constructor <;> (show _ ≤ _ + _; omega)
      · constructor <;> (show _ ≤ _ + _; omega)⟩
    simpa using hg
  · rw [lt_f (by omega), cf, bs, cf]
    have hie : i = m.Young.length := by omega
    subst hie
    refine old p h1 fun h7 => ?_
    obtain ⟨k1, k4, k5⟩ := h3 h7
    rw [List.take_length] at k5
    exact ⟨k1, k4, k5⟩
theorem nth {l : List Int} {x : Int} (h : x ∈ l) : ∃ i, i < l.length ∧ l[i]? = some x := by
  obtain ⟨i, h1, h2⟩ := List.getElem_of_mem h
  exact ⟨i, h1, by rw [List.getElem?_eq_getElem h1, h2]⟩
theorem held_spec {m : DMemory} {roots : List DValue} (hb : Bnd 140737488355328 m roots) (hw : W64 m) (hr : ∀ v ∈ roots, in64 v.N) : pantomimelaw19_ReachHeld_O 6000 m roots = some true := by
  apply Sat.eq
  unfold pantomimelaw19_ReachHeld_O
  refine Sat.bind (few_spec 6000 (by decide) hb) fun b hfew => ?_
  refine sat_not (fun _ => ?_) fun hb1 => ?_
  · rw [goes_true]; exact sat_some rfl
  have hs := hfew hb1
  obtain ⟨bg, b0, b1, hord⟩ := order_spec 6000 (by decide) hs hw hr
  obtain ⟨all, o0, hnd, hlen, hhas, hbeg, hroots, hclo, hop⟩ := hord
  have hlive : reach_Live_O 6000 m roots = some (sortL all) := live_of o0 (by omega) rfl
  have hll : (sortL all).length = all.length := sortL_len all
  have hmem := sortL_mem all
  have hasc := sortL_asc hnd
  have hrl := hs.roots
  rw [hlive, bs]
  generalize hL : sortL all = live at *
  have h64 : ∀ x ∈ live, in64 x := fun x hx => by
    have h1 := hhas x ((hmem x).1 hx)
    have h2 := hasM_pos h1
    have h3 := hasM_le hs h1
    unfold in64; omega
  -- the last part: Strong
  have strong : Sat (pantomimelaw19_ReachHeld_j25 6000 roots live m) (· = true) := by
    have hbl := b1.len hs
    have hst : reach_Strong_O 6000 m roots = some (sortL bg.all_) := by
      unfold reach_Strong_O slices_Values_54_O
      rw [b0, bs, bs, sorted_spec 6000 (by decide) _ (by omega), bs]
    unfold pantomimelaw19_ReachHeld_j25
    rw [hst, bs]
    refine loop_inv0 (fun k i => pantomimelaw19_ReachHeld_l67 6000 (sortL bg.all_) live k (i : Int)) (sortL bg.all_).length (fun _ => True) _ ?_ ?_ 6000 0 (by have := sortL_len bg.all_; omega) (by omega) trivial
    · intro k i hi _ go
      have hx := List.getElem_mem hi
      have hsl := sortL_len bg.all_
      show Sat (pantomimelaw19_ReachHeld_l67 6000 (sortL bg.all_) live (k + 1) (i : Int)) _
      rw [pantomimelaw19_ReachHeld_l67_s, lt_t (by omega), ct, getE_n hi, bs, in19 6000 (by decide) live (by omega), bs, decide_eq_true ((hmem _).2 (hbeg _ ((sortL_mem _ _).1 hx)))]
      simp only [nt, cf]
      rw [r64 (by omega) (by omega)]
      exact go trivial
    · intro k _
      show Sat (pantomimelaw19_ReachHeld_l67 6000 (sortL bg.all_) live (k + 1) _) _
      rw [pantomimelaw19_ReachHeld_l67_s, lt_f (by omega), cf]
      unfold pantomimelaw19_ReachHeld_j66
      rw [goes_true]; exact sat_some rfl
  -- the cells
  have cells : Sat (pantomimelaw19_ReachHeld_j10 6000 roots live m) (· = true) := by
    unfold pantomimelaw19_ReachHeld_j10
    refine loop_inv0 (fun k i => pantomimelaw19_ReachHeld_l26 6000 live roots m k (i : Int)) live.length (fun _ => True) _ ?_ ?_ 6000 0 (by omega) (by omega) trivial
    · intro k i hi _ go
      have hx := List.getElem_mem hi
      have hxa := (hmem _).1 hx
      have hx64 := h64 _ hx
      have hsm := hs.at_ live[i]
      show Sat (pantomimelaw19_ReachHeld_l26 6000 live roots m (k + 1) (i : Int)) _
      obtain ⟨hl1, hl2⟩ := leads_ok hs hw live[i]
      obtain ⟨ho1, ho2⟩ := opens_ok (N := 6000) hs hw live[i] live
      obtain ⟨j, hj1, hj2⟩ := nth hxa
      have hin : ∀ x ∈ leadsL (atM m live[i]) ++ opensL 6000 (atM m live[i]) live, hasM m x = true → x ∈ live := fun x hx2 hh => by
        refine (hmem x).2 ?_
        rcases List.mem_append.1 hx2 with hx2 | hx2
        · exact hclo j _ x hj1 hj2 hx2 hh
        · refine hop j _ x hj1 hj2 ?_ hh
          unfold opensL at hx2 ⊢
          rw [opens_congr (q := fun x => decide (x ∈ live)) fun x => by rw [decide_eq_decide]; exact (hmem x).symm]
          exact hx2
      have hn64 : ∀ x ∈ leadsL (atM m live[i]) ++ opensL 6000 (atM m live[i]) live, in64 x := fun x hx2 => by
        rcases List.mem_append.1 hx2 with hx2 | hx2
        · exact hl2 x hx2
        · exact ho2 x hx2
      have hnl : (leadsL (atM m live[i]) ++ opensL 6000 (atM m live[i]) live).length ≤ 4000 := by rw [List.length_append]; omega
      rw [pantomimelaw19_ReachHeld_l26_s, lt_t (by omega), ct, getE_n hi, bs, at_ref 6000 m _ hx64, bs, leads_ref 6000 (by decide) _ (by omega) (by omega), bs, opens_ref 6000 (by decide) live (by omega) _ (by omega) (by omega), bs, rF (by omega)]
      -- behind the inner loop
      have tail : Sat (pantomimelaw19_ReachHeld_j44 6000 (pantomimelaw19_ReachHeld_l26 6000 live roots m k) (i : Int) live roots m) (· = true) := by
        unfold pantomimelaw19_ReachHeld_j44
        have h1 : ((bif decide (0 < (i : Int)) then ((getE live (i : Int)).bind fun x56 => req (in64 ((i : Int) - 1)) ((getE live ((i : Int) - 1)).bind fun x58 => some (decide (x56 ≤ x58)))) else (some false)) : Option Bool) = some false := by
          by_cases hi0 : 0 < i
          · have hpre : getE live ((i : Int) - 1) = some (live[i - 1]'(by omega)) := by
              have := getE_n (xs := live) (i := i - 1) (by omega)
              rw [show (((i - 1 : Nat)) : Int) = (i : Int) - 1 by omega] at this
              exact this
            have hlt : live[i - 1]'(by omega) < live[i] := List.pairwise_iff_getElem.1 hasc (i - 1) i (by omega) hi (by omega)
            rw [lt_t (by omega), ct, getE_n hi, bs, r64 (by omega) (by omega), hpre, bs, le_f (by omega)]
          · rw [lt_f (by omega), cf]
        rw [h1, bs, cf, getE_n hi, bs, has_ref 6000 m _ hx64, bs, hhas _ hxa, bs]
        simp only [nt, cf]
        unfold pantomimelaw19_ReachHeld_j29
        rw [r64 (by omega) (by omega)]
        exact go trivial
      refine loop_inv0 (fun f q => pantomimelaw19_ReachHeld_l45 6000 (pantomimelaw19_ReachHeld_l26 6000 live roots m k) (i : Int) live (leadsL (atM m live[i])) (opensL 6000 (atM m live[i]) live) roots m f (q : Int)) (leadsL (atM m live[i]) ++ opensL 6000 (atM m live[i]) live).length (fun _ => True) _ ?_ ?_ 6000 0 (by omega) (by omega) trivial
      · intro f q hq _ go2
        have hqm := List.getElem_mem hq
        show Sat (pantomimelaw19_ReachHeld_l45 6000 (pantomimelaw19_ReachHeld_l26 6000 live roots m k) (i : Int) live (leadsL (atM m live[i])) (opensL 6000 (atM m live[i]) live) roots m (f + 1) (q : Int)) _
        rw [pantomimelaw19_ReachHeld_l45_s, lt_t (by omega), ct, getE_n hq, bs, has_ref 6000 m _ (hn64 _ hqm), bs]
        cases hh : hasM m (leadsL (atM m live[i]) ++ opensL 6000 (atM m live[i]) live)[q]
        · simp only [cf, bs]
          rw [r64 (by omega) (by omega)]
          exact go2 trivial
        · rw [ct, bs, in19 6000 (by decide) live (by omega), bs, decide_eq_true (hin _ hqm hh)]
          simp only [nt, cf, bs]
          rw [r64 (by omega) (by omega)]
          exact go2 trivial
      · intro f _
        show Sat (pantomimelaw19_ReachHeld_l45 6000 (pantomimelaw19_ReachHeld_l26 6000 live roots m k) (i : Int) live (leadsL (atM m live[i])) (opensL 6000 (atM m live[i]) live) roots m (f + 1) _) _
        rw [pantomimelaw19_ReachHeld_l45_s, lt_f (by omega), cf]
        exact tail
    · intro k _
      show Sat (pantomimelaw19_ReachHeld_l26 6000 live roots m (k + 1) _) _
      rw [pantomimelaw19_ReachHeld_l26_s, lt_f (by omega), cf]
      exact strong
  -- the roots
  refine loop_inv0 (fun k i => pantomimelaw19_ReachHeld_l11 6000 roots live m k (i : Int)) roots.length (fun _ => True) _ ?_ ?_ 6000 0 (by omega) (by omega) trivial
  · intro k i hi _ go
    have hx := List.getElem_mem hi
    have hx64 := hr _ hx
    show Sat (pantomimelaw19_ReachHeld_l11 6000 roots live m (k + 1) (i : Int)) _
    rw [pantomimelaw19_ReachHeld_l11_s, lt_t (by omega), ct]
    simp only [getE_n hi, bs, kind_has]
    cases hk : hasB roots[i]
    · simp only [cf, bs]
      rw [r64 (by omega) (by omega)]
      exact go trivial
    · simp only [ct, has_ref 6000 m _ hx64, bs]
      cases hh : hasM m roots[i].N
      · simp only [cf, bs]
        rw [r64 (by omega) (by omega)]
        exact go trivial
      · simp only [ct, bs, in19 6000 (by decide) live (by omega)]
        rw [decide_eq_true ((hmem _).2 (hroots _ hx hk hh))]
        simp only [nt, cf]
        rw [r64 (by omega) (by omega)]
        exact go trivial
  · intro k _
    show Sat (pantomimelaw19_ReachHeld_l11 6000 roots live m (k + 1) _) _
    rw [pantomimelaw19_ReachHeld_l11_s, lt_f (by omega), cf]
    exact cells
end Go.Proofs.Ytmbaennilhdieaa
