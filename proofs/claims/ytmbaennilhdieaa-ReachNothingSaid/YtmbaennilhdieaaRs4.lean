/- Plain: every cell has an answer whether it is valid; what a valid registry holds. -/
import Derived.Test.YtmbaennilhdieaaRq4
namespace Go.Proofs.Ytmbaennilhdieaa
open Go.RowKit

abbrev Tot {ρ : Type} (m : Option ρ) : Prop := Sat m fun _ => True
theorem tot_some {ρ : Type} (x : ρ) : Tot (some x) := sat_some trivial
theorem tot_bif {ρ : Type} {b : Bool} {x y : Option ρ} (hx : b = true → Tot x) (hy : b = false → Tot y) : Tot (bif b then x else y) := sat_cond hx hy
theorem num_tot (N : Nat) (v : DValue) (a b : Int) : Tot (pantomimeref15_num_O N v a b) := by
  unfold pantomimeref15_num_O
  refine Sat.bind (P := fun _ => True) (tot_bif (fun _ => tot_some _) fun _ => tot_some _) fun x _ => Sat.bind (P := fun _ => True) (tot_bif (fun _ => tot_some _) fun _ => tot_some _) fun y _ => tot_some _
theorem none_tot (N : Nat) (v : DValue) (a : Int) : Tot (pantomimeref15_none_O N v a) := by
  unfold pantomimeref15_none_O
  exact Sat.bind (P := fun _ => True) (tot_bif (fun _ => tot_some _) fun _ => tot_some _) fun x _ => tot_some _
/-- a && b, where b needs a -/
theorem tot_and {c : Bool} {m : Option Bool} (h : c = true → Tot m) : Tot (bif c then m else some false) := tot_bif h fun _ => tot_some _
theorem tot_at {l : List DValue} {i : Nat} {f : DValue → Option Bool} (hi : i < l.length) (h : ∀ v, Tot (f v)) : Tot ((getE l (i : Int)).bind f) := by
  rw [getE_n hi, bs]; exact h _
theorem tot_bind {m : Option Bool} {f : Bool → Option Bool} (h : Tot m) (k : ∀ b, Tot (f b)) : Tot (m.bind f) := Sat.bind h fun b _ => k b
theorem tot_bindP {m : Option Bool} {p : Prop} {f : Bool → Option Bool} (h : Sat m fun b => b = true → p) (k : ∀ b, (b = true → p) → Tot (f b)) : Tot (m.bind f) := Sat.bind h k
theorem slots_tot (N : Nat) (c : DCell) : Tot (pantomimeref15_slots_O N c) := by
  unfold pantomimeref15_slots_O
  have hp : Tot (pantomimeref15_Props_O N c.Kind) := by
    unfold pantomimeref15_Props_O
    iterate 6 refine tot_bind (tot_bif (fun _ => tot_some _) fun _ => tot_some _) fun _ => ?_
    exact tot_some _
  refine tot_bind hp fun y => tot_bind (tot_bif (fun _ => tot_some _) fun _ => tot_bind (tot_bif (fun _ => tot_some _) fun _ => tot_some _) fun _ => tot_some _) fun b => ?_
  refine tot_bif (fun _ => ?_) fun _ => ?_
  · refine tot_bindP (p := 0 < c.Slots.length) (sat_dec (fun h => sat_some fun _ => by omega) fun _ => sat_some fun h => by cases h) fun b hb => tot_bind (tot_and fun h => ?_) fun _ => tot_some _
    have h0 := hb h
    refine tot_at (i := 0) h0 fun v => tot_bind (tot_bif (fun _ => tot_some _) fun _ => tot_at (i := 0) h0 fun _ => tot_some _) fun _ => tot_some _
  · refine tot_bif (fun _ => tot_some _) fun _ => tot_bind (tot_bif (fun _ => tot_some _) fun _ => tot_some _) fun _ => tot_bif (fun _ => tot_some _) fun _ => sat_cond (fun _ => ?_) fun _ => tot_some _
    refine tot_bindP (p := 1 < c.Slots.length) (sat_dec (fun h => ?_) fun _ => sat_some fun h => by cases h) fun b hb => tot_bind (tot_and fun h => ?_) fun _ => tot_some _
    · rw [show ((0 : Int)) = ((0 : Nat) : Int) from rfl, getE_n (by omega), bs]
      obtain ⟨x, hx, -⟩ := none_tot N c.Slots[0] 7
      rw [hx, bs]; exact sat_some fun _ => by omega
    · refine tot_at (i := 1) (hb h) fun v => tot_bind (none_tot N v 7) fun _ => tot_some _
theorem at_tot {l : List DValue} {i : Nat} {m : DValue → Option Bool} (hi : i < l.length) (h : ∀ v, Tot (m v)) {p : Prop} (hp : p) : Sat ((getE l (i : Int)).bind fun x => (m x).bind fun y => some y) fun b => b = true → p := by
  rw [getE_n hi, bs]
  obtain ⟨x, hx, -⟩ := h l[i]
  rw [hx, bs]; exact sat_some fun _ => hp
/-- what is known of More where it is valid -/
def MoreOk (c : DCell) : Prop := (c.Kind = 8 → c.More.length % 2 = 0) ∧ (c.Kind = 10 → 1 ≤ c.More.length ∧ (c.More.length - 1) % 4 = 0)
theorem more_tot (N : Nat) (hN : 2000 < N) (c : DCell) (hc : c.More.length ≤ 1000) : Sat (pantomimeref15_more_O N c) fun b => b = true → MoreOk c := by
  have j6 : ∀ p, (p = true → c.Kind = 1 ∨ c.Kind = 5) → Sat (pantomimeref15_more_j6 N c p) fun b => b = true → MoreOk c := by
    intro p hp
    have other : ∀ {m : Option Bool}, c.Kind ≠ 8 → c.Kind ≠ 10 → Tot m → Sat m fun b => b = true → MoreOk c := fun h8 h10 h => h.mono fun _ _ _ => ⟨fun e => absurd e h8, fun e => absurd e h10⟩
    unfold pantomimeref15_more_j6
    refine sat_cond (fun h => other (by rcases hp h with e | e <;> omega) (by rcases hp h with e | e <;> omega) (tot_some _)) fun _ => ?_
    refine sat_dec (fun hk => other (by omega) (by omega) ?_) fun _ => ?_
    · refine tot_bindP (p := 1 < c.More.length) (sat_dec (fun h => at_tot (i := 0) (by omega) (fun v => num_tot N v _ _) (by omega)) fun _ => sat_some fun h => by cases h) fun b hb => tot_bind (tot_and fun h => tot_at (i := 1) (hb h) fun v => tot_bind (none_tot N v 9) fun _ => tot_some _) fun _ => tot_some _
    refine sat_dec (fun hk => other (by omega) (by omega) ?_) fun _ => ?_
    · refine tot_bindP (p := 0 < c.More.length) (sat_dec (fun h => sat_some fun _ => by omega) fun _ => sat_some fun h => by cases h) fun b hb => tot_bind (tot_and fun h => tot_at (i := 0) (hb h) fun v => tot_bind (none_tot N v 9) fun _ => tot_some _) fun _ => tot_some _
    refine sat_dec (fun hk => other (by omega) (by omega) ?_) fun _ => ?_
    · refine tot_bindP (p := 1 < c.More.length) (sat_dec (fun h => at_tot (i := 0) (by omega) (fun v => num_tot N v _ _) (by omega)) fun _ => sat_some fun h => by cases h) fun b hb => tot_bind (tot_and fun h => tot_at (i := 1) (hb h) fun v => tot_bind (none_tot N v 9) fun _ => tot_some _) fun _ => tot_some _
    refine sat_dec (fun hk => other (by omega) (by omega) ?_) fun _ => ?_
    · refine tot_bindP (p := 3 < c.More.length) (sat_dec (fun h => at_tot (i := 2) (by omega) (fun v => num_tot N v _ _) (by omega)) fun _ => sat_some fun h => by cases h) fun b hb => tot_bind (tot_and fun h => tot_at (i := 3) (hb h) fun v => tot_bind (num_tot N v _ _) fun _ => tot_some _) fun _ => tot_some _
    refine sat_dec (fun hk => ?_) fun hk8 => ?_
    · obtain ⟨b, -, h2, h3⟩ := entries_eq N hN 2 (.inl rfl) c.More hc
      have h2' : pantomimeref15_entries_O N c.More 2 = some b := h2
      rw [h2', bs]
      exact sat_some fun hb => ⟨fun _ => h3 hb, fun e => absurd e (by omega)⟩
    refine sat_dec (fun hk => ?_) fun hk10 => ?_
    · refine Sat.bind (P := fun b => b = true → 1 ≤ c.More.length) (sat_dec (fun h => ?_) fun _ => sat_some fun h => by cases h) fun b hb => ?_
      · rw [show ((0 : Int)) = ((0 : Nat) : Int) from rfl, getE_n (by omega), bs]; exact sat_some fun _ => by omega
      · refine Sat.bind (P := fun b => b = true → MoreOk c) (sat_cond (fun h => ?_) fun _ => sat_some fun h => by cases h) fun b' hb' => sat_some hb'
        have h1 := hb h
        rw [req_pos ⟨by omega, by show (1 : Int).toNat ≤ _; exact h1, Nat.le_refl _⟩]
        have hl : ((c.More.drop ((1 : Int).toNat)).take (c.More.length - (1 : Int).toNat)).length = c.More.length - 1 := by
          rw [List.length_take, List.length_drop]; show min (c.More.length - 1) (c.More.length - 1) = _; omega
        obtain ⟨b2, -, h2, h3⟩ := entries_eq N hN 4 (.inr rfl) ((c.More.drop ((1 : Int).toNat)).take (c.More.length - (1 : Int).toNat)) (by rw [hl]; omega)
        have h2' : pantomimeref15_entries_O N ((c.More.drop ((1 : Int).toNat)).take (c.More.length - (1 : Int).toNat)) 4 = some b2 := h2
        rw [h2', bs]
        exact sat_some fun hb2 => ⟨fun e => absurd e (by omega), fun _ => ⟨h1, by have := h3 hb2; rw [hl] at this; exact this⟩⟩
    refine sat_dec (fun hk => other (by omega) (by omega) ?_) fun _ => other hk8 hk10 (tot_some _)
    refine tot_bind ?_ fun _ => tot_some _
    exact tot_bif (fun h => tot_at (i := 0) (by have := of_decide_eq_true h; omega) fun v => tot_bind (num_tot N v _ _) fun _ => tot_some _) fun _ => tot_some _
  unfold pantomimeref15_more_O
  refine sat_dec (fun _ => sat_some fun h => by cases h) fun _ => sat_dec (fun hk => sat_some fun _ => ⟨fun e => absurd e (by omega), fun e => absurd e (by omega)⟩) fun _ => sat_dec (fun hk => j6 _ fun _ => .inl hk) fun _ => j6 _ fun h => .inr (of_decide_eq_true h)
theorem right_tot (N : Nat) (hN : 2000 < N) (c : DCell) (hS : c.Slots.length ≤ 1000) (hc : c.More.length ≤ 1000) : Sat (pantomimeref15_Right_O N c) fun b => b = true → MoreOk c := by
  obtain ⟨b1, g1, -⟩ := right_slots N hN c hS hc N 0 (by omega) (by omega)
  have g1' : pantomimeref15_Right_l12 N c N 0 = (bif b1 then pantomimeref15_Right_j19 N c else some false) := g1
  have hj : Sat (pantomimeref15_Right_j19 N c) fun b => b = true → MoreOk c := by
    unfold pantomimeref15_Right_j19
    refine Sat.bind (slots_tot N c) fun y _ => ?_
    refine Sat.bind (P := fun b => b = true → MoreOk c) (sat_cond (fun _ => Sat.bind (more_tot N hN c hc) fun _ h => sat_some h) fun _ => sat_some fun h => by cases h) fun _ h => sat_some h
  unfold pantomimeref15_Right_O
  rw [g1']
  iterate 6 refine Sat.bind (P := fun _ => True) (tot_bif (fun _ => tot_some _) fun _ => tot_some _) fun _ _ => ?_
  refine sat_cond (fun _ => sat_some fun h => by cases h) fun _ => sat_cond (fun _ => hj) fun _ => sat_some fun h => by cases h
end Go.Proofs.Ytmbaennilhdieaa
