/- Merged texts: part 8. No conditions of their own. -/
import Derived.Test.YtmbaennilhdieaaGreatG7
/- Plain: a second major collection finds everything reachable and changes nothing. -/
namespace Go.Proofs.YtmbaennilhdieaaGreat
open Go.RowKit
theorem told_in {lv f : List Int} {cb : DValue} (hcb : hasB cb = true → cb.N ∈ f) : ∀ {l : List DValue}, entB4 l = true → (∀ j v, l[4 * j + 1]? = some v → hasB v = true → v.N ∈ f) → AddrIn f (toldE lv cb l)
 | [], _, _ => fun v hv => by simp [toldE] at hv
 | [_], h, _ => by cases h
 | [_, _], h, _ => by cases h
 | [_, _, _], h, _ => by cases h
 | t :: a :: k :: s :: r, h, ho => by
  rw [entB4_cons] at h
  simp only [Bool.and_eq_true, decide_eq_true_eq] at h
  obtain ⟨⟨⟨h1, -⟩, h3, h4⟩, h5⟩ := h
  have ih := told_in (lv := lv) hcb h5 fun j v hj hb => ho (j + 1) v (by rw [show 4 * (j + 1) + 1 = 4 * j + 1 + 4 by omega]; simpa using hj) hb
  intro w hw hb
  simp only [toldE_cons] at hw
  rcases List.mem_append.1 hw with hw | hw
  ·cases hd : decide (t.N ∈ lv) with
   | true => rw [hd] at hw; cases hw
   | false =>
    rw [hd] at hw
    simp only [cond_false, List.mem_cons, List.not_mem_nil, or_false] at hw
    rcases hw with rfl | rfl | rfl
    ·exact hcb hb
    ·exact ho 0 w rfl hb
    ·have : w.Kind = 3 := by
      unfold numB at h4
      rw [Bool.and_eq_true, decide_eq_true_eq] at h4; exact h4.1
     unfold hasB at hb; rw [this] at hb; cases hb
  ·exact ih w hw hb
theorem told_mod (lv : List Int) (cb : DValue) : ∀ l : List DValue, (toldE lv cb l).length % 3 = 0
 | [] => rfl
 | [_] => rfl
 | [_, _] => rfl
 | [_, _, _] => rfl
 | t :: a :: k :: s :: r => by
  have := told_mod lv cb r
  simp only [toldE_cons]
  cases decide (t.N ∈ lv) <;> simp <;> omega
theorem flat_mod {α β : Type} (g : α → List β) : ∀ l : List α, (∀ a, (g a).length % 3 = 0) → (l.flatMap g).length % 3 = 0
 | [], _ => rfl
 | a :: l, h => by
  have h1 := h a
  have h2 := flat_mod g l h
  rw [List.flatMap_cons, List.length_append]; omega
theorem kept_or_told {lv : List Int} {cb v : DValue} : ∀ {l : List DValue} {j : Nat}, l[4 * j + 1]? = some v → entB4 l = true → (∃ p, (keptE lv l)[4 * p + 1]? = some v) ∨ v ∈ toldE lv cb l
 | [], j, h, _ => by simp at h
 | [_], _, _, h => by cases h
 | [_, _], _, _, h => by cases h
 | [_, _, _], _, _, h => by cases h
 | t :: a :: k :: s :: r, 0, h, _ => by
  simp only [Nat.mul_zero, Nat.zero_add, List.getElem?_cons_succ, List.getElem?_cons_zero, Option.some.injEq] at h
  subst h
  simp only [keptE_cons, toldE_cons]
  cases decide (t.N ∈ lv)
  ·exact .inr (by simp)
  ·exact .inl ⟨0, by simp⟩
 | t :: a :: k :: s :: r, j + 1, h, he => by
  rw [entB4_cons] at he
  rw [Bool.and_eq_true] at he
  rw [show 4 * (j + 1) + 1 = 4 * j + 1 + 4 by omega] at h
  have h' : r[4 * j + 1]? = some v := by simpa using h
  simp only [keptE_cons, toldE_cons]
  rcases kept_or_told (lv := lv) (cb := cb) h' he.2 with ⟨p, hp⟩ | hp
  ·left
   cases decide (t.N ∈ lv)
   ·exact ⟨p, hp⟩
   ·refine ⟨p + 1, ?_⟩
    rw [show 4 * (p + 1) + 1 = 4 * p + 1 + 4 by omega]
    simpa using hp
  ·exact .inr (List.mem_append_right _ hp)
theorem pick_idx {F : Nat → DValue → Bool} {x : Int} : ∀ {i : Nat} {l : List DValue}, x ∈ pick F i l → ∃ j v, l[j]? = some v ∧ F (i + j) v = true ∧ v.N = x
 | _, [], h => by cases h
 | i, v :: l, h => by
  rw [pick_cons] at h
  rcases List.mem_append.1 h with h | h
  ·cases hf : F i v with
   | false => rw [hf] at h; cases h
   | true => rw [hf] at h; exact ⟨0, v, rfl, hf, (List.mem_singleton.1 h).symm⟩
  ·obtain ⟨j, w, g1, g2, g3⟩ := pick_idx h
   exact ⟨j + 1, w, by simpa using g1, by rw [show i + (j + 1) = i + 1 + j by omega]; exact g2, g3⟩
theorem ent4_num {v : DValue} : ∀ {l : List DValue} {j : Nat}, l[4 * j + 3]? = some v → entB4 l = true → hasB v = false
 | [], j, h, _ => by simp at h
 | [_], _, _, h => by cases h
 | [_, _], _, _, h => by cases h
 | [_, _, _], _, _, h => by cases h
 | t :: a :: k :: s :: r, 0, h, he => by
  simp only [Nat.mul_zero, Nat.zero_add, List.getElem?_cons_succ, List.getElem?_cons_zero, Option.some.injEq] at h
  subst h
  rw [entB4_cons] at he
  simp only [Bool.and_eq_true] at he
  have h4 := he.1.2.2
  unfold numB at h4
  rw [Bool.and_eq_true, decide_eq_true_eq] at h4
  unfold hasB; rw [h4.1]; rfl
 | t :: a :: k :: s :: r, j + 1, h, he => by
  rw [entB4_cons] at he
  rw [Bool.and_eq_true] at he
  rw [show 4 * (j + 1) + 3 = 4 * j + 3 + 4 by omega] at h
  exact ent4_num (l := r) (j := j) (by simpa using h) he.2
theorem opens_img {ρ : Int → Int} {row all2 lv f : List Int} (hsub : ∀ x ∈ row, x ∈ f ∧ ρ x ∈ all2) (hlv : ∀ x, x ∈ lv ↔ x ∈ f) {x : Int} (hx : x ∈ f) : ∀ {l : List DValue}, entB2 l = true → x ∈ opens (fun y => decide (y ∈ row)) l → ρ x ∈ opens (fun y => decide (y ∈ all2)) ((cleanL (fun y => decide (y ∈ lv)) l).map (movV ρ f))
 | [], _, h => by simp [opens] at h
 | [_], h, _ => by cases h
 | k :: v :: r, he, h => by
  rw [entB2_cons] at he
  rw [Bool.and_eq_true, Bool.and_eq_true, decide_eq_true_eq] at he
  rw [opens_cons] at h
  have hk : hasB k = true := by unfold hasB; rw [he.1.1]; rfl
  have tail : ρ x ∈ opens (fun y => decide (y ∈ all2)) ((cleanL (fun y => decide (y ∈ lv)) r).map (movV ρ f)) → ρ x ∈ opens (fun y => decide (y ∈ all2)) ((cleanL (fun y => decide (y ∈ lv)) (k :: v :: r)).map (movV ρ f)) := fun ht => by
   simp only [cleanL_cons]
   cases decide (k.N ∈ lv)
   ·exact ht
   ·show ρ x ∈ opens _ (movV ρ f k :: movV ρ f v :: (cleanL (fun y => decide (y ∈ lv)) r).map (movV ρ f))
    rw [opens_cons]
    exact List.mem_append_right _ ht
  rcases List.mem_append.1 h with h | h
  ·cases hv : hasB v && decide (k.N ∈ row) with
   | false => rw [hv] at h; cases h
   | true =>
    rw [hv] at h
    rw [Bool.and_eq_true, decide_eq_true_eq] at hv
    obtain rfl := List.mem_singleton.1 h
    obtain ⟨q1, q2⟩ := hsub _ hv.2
    simp only [cleanL_cons]
    rw [decide_eq_true ((hlv _).2 q1), cond_true]
    show ρ v.N ∈ opens _ (movV ρ f k :: movV ρ f v :: (cleanL (fun y => decide (y ∈ lv)) r).map (movV ρ f))
    rw [opens_cons, mov_has, hv.1, mov_in hk q1, mov_in hv.1 hx]
    refine List.mem_append_left _ ?_
    show ρ v.N ∈ bif true && decide (ρ k.N ∈ all2) then [ρ v.N] else []
    rw [decide_eq_true q2]
    exact List.mem_singleton.2 rfl
  ·exact tail (opens_img hsub hlv hx he.2 h)
theorem CellOk.strong {N : Nat} {ρ : Int → Int} {lv f : List Int} {c : DCell} (hρ : Ren ρ f) (h : CellOk N lv f c) {x : Int} (hx : x ∈ leadsL c) : ρ x ∈ leadsL (movC ρ f (clC N lv c)) ∨ ∃ v ∈ told lv c, hasB v = true ∧ v.N = x := by
 have hxf := h.leads x hx
 by_cases h8 : c.Kind = 8
 ·left
  rw [leads8 h8] at hx
  rw [h.clC8 h8, leads8 (c := movC ρ f ⟨c.Kind, c.Shape, c.Flags, c.Age, c.Slots, cleanL (fun x => decide (x ∈ lv)) c.More⟩) h8]
  show ρ x ∈ pick (fun _ v => hasB v) 0 (c.Slots.map (movV ρ f))
  rw [pick_map (fun _ v => hasB v) (fun _ v => mov_has ρ f v) (fun _ _ h => h) 0 c.Slots fun y hy => h.leads y (by rw [leads8 h8]; exact hy)]
  exact List.mem_map.2 ⟨x, hx, rfl⟩
 ·by_cases h10 : c.Kind = 10
  ·obtain ⟨q1, q2, q3⟩ := h.ent4 h10
   obtain ⟨a, r, hr⟩ : ∃ a r, c.More = a :: r := by
    cases hm : c.More with
    | nil => rw [hm] at q1; simp at q1
    | cons a r => exact ⟨a, r, rfl⟩
   rw [hr] at q3
   have q3' : entB4 r = true := q3
   have hm : (movC ρ f (clC N lv c)).More = movV ρ f a :: (keptE lv r).map (movV ρ f) := by
    rw [CellOk.clC10 h10, hr]; rfl
   have hK : (movC ρ f (clC N lv c)).Kind = 10 := by rw [(CellOk.new hρ h).2.2.2, h10]
   have hS : (movC ρ f (clC N lv c)).Slots = c.Slots.map (movV ρ f) := by
    rw [CellOk.clC10 h10]; rfl
   unfold leadsL at hx
   rcases List.mem_append.1 hx with hx' | hx'
   ·left
    unfold leadsL
    refine List.mem_append_left _ ?_
    rw [hS, pick_map (fun _ v => hasB v) (fun _ v => mov_has ρ f v) (fun _ _ h => h) 0 c.Slots fun y hy => h.leads y (List.mem_append_left _ hy)]
    exact List.mem_map.2 ⟨x, hx', rfl⟩
   ·obtain ⟨j, v, g1, g2, g3⟩ := pick_idx hx'
    rw [Bool.and_eq_true] at g2
    obtain ⟨g2, gb⟩ := g2
    rw [Nat.zero_add, h10] at g2
    have put : ∀ p, ((movC ρ f (clC N lv c)).More)[p]? = some (movV ρ f v) → weakB 10 p = false → ρ x ∈ leadsL (movC ρ f (clC N lv c)) := fun p hp hw => by
     unfold leadsL
     refine List.mem_append_right _ ?_
     have := pick_in (F := fun i v => !weakB (movC ρ f (clC N lv c)).Kind i && hasB v) (i := 0) hp (by rw [Nat.zero_add, hK, hw, mov_has, gb]; rfl)
     rw [mov_in gb (by rw [g3]; exact hxf)] at this
     rw [← g3]; exact this
    cases j with
    | zero =>
     rw [hr] at g1
     have e1 : a = v := by simpa using g1
     exact .inl (put 0 (by rw [hm, e1]; rfl) rfl)
    | succ i =>
     rw [hr] at g1
     have g1' : r[i]? = some v := by simpa using g1
     have hw : ((((i + 1 : Nat) : Int) - 1).tmod 4).tmod 2 ≠ 0 := by
      intro e
      have : weakB 10 (i + 1) = true := by
       unfold weakB
       rw [decide_eq_true (p := (0 : Int) < ((i + 1 : Nat) : Int)) (by omega), decide_eq_true e]; rfl
      rw [this] at g2; cases g2
     have e4 : (((i + 1 : Nat) : Int) - 1).tmod 4 = ((i % 4 : Nat) : Int) := by rw [Int.tmod_eq_emod_of_nonneg (by omega)]; omega
     rw [e4, Int.tmod_eq_emod_of_nonneg (by omega)] at hw
     have h13 : i % 4 = 1 ∨ i % 4 = 3 := by omega
     rcases h13 with h1 | h3
     ·obtain ⟨q, rfl⟩ : ∃ q, i = 4 * q + 1 := ⟨i / 4, by omega⟩
      rcases kept_or_told (lv := lv) (cb := c.More.headD zeroV) g1' q3' with ⟨p, hp⟩ | hp
      ·refine .inl (put (4 * p + 2) ?_ ?_)
       ·rw [hm, show 4 * p + 2 = (4 * p + 1) + 1 by omega, List.getElem?_cons_succ, List.getElem?_map, hp]; rfl
       ·unfold weakB
        have e1 : (((4 * p + 2 : Nat) : Int) - 1).tmod 4 = 1 := by rw [Int.tmod_eq_emod_of_nonneg (by omega)]; omega
        have e2 : ((1 : Int)).tmod 2 = 1 := rfl
        rw [e1, e2]
        cases decide ((0 : Int) < ((4 * p + 2 : Nat) : Int)) <;> rfl
      ·refine .inr ⟨v, ?_, gb, g3⟩
       unfold told
       rw [decide_eq_true h10]
       unfold cleanF
       rw [hr] at hp ⊢
       exact hp
     ·obtain ⟨q, rfl⟩ : ∃ q, i = 4 * q + 3 := ⟨i / 4, by omega⟩
      rw [ent4_num g1' q3'] at gb; cases gb
  ·left
   rw [CellOk.clC0 h8 h10, leads_map h.leads]
   exact List.mem_map.2 ⟨x, hx, rfl⟩
theorem CellOk.toldIn {N : Nat} {lv f : List Int} {c : DCell} (h : CellOk N lv f c) : AddrIn f (told lv c) := by
 unfold told
 by_cases h10 : c.Kind = 10
 ·rw [decide_eq_true h10]
  obtain ⟨q1, q2, q3⟩ := h.ent4 h10
  obtain ⟨a, r, hr⟩ : ∃ a r, c.More = a :: r := by
   cases hm : c.More with
   | nil => rw [hm] at q1; simp at q1
   | cons a r => exact ⟨a, r, rfl⟩
  rw [hr] at q3
  have q3' : entB4 r = true := q3
  unfold cleanF
  rw [hr]
  refine told_in (fun hb => more_in h.leads (j := 0) (v := a) (by rw [hr]; rfl) (by unfold weakB; rw [h10]; rfl) hb) q3' fun j w hj hw => more_in h.leads (j := 4 * j + 2) (by rw [hr, show 4 * j + 2 = (4 * j + 1) + 1 by omega, List.getElem?_cons_succ]; exact hj) ?_ hw
  unfold weakB
  rw [h10]
  have e1 : (((4 * j + 2 : Nat) : Int) - 1).tmod 4 = 1 := by rw [Int.tmod_eq_emod_of_nonneg (by omega)]; omega
  have e2 : ((1 : Int)).tmod 2 = 1 := rfl
  rw [e1, e2]
  cases decide ((0 : Int) < ((4 * j + 2 : Nat) : Int)) <;> rfl
 ·rw [decide_eq_false h10]; intro v hv; cases hv
theorem cleanL_id {p : Int → Bool} : ∀ {l : List DValue}, entB2 l = true → (∀ v ∈ l, hasB v = true → p v.N = true) → cleanL p l = l
 | [], _, _ => rfl
 | [_], h, _ => by cases h
 | k :: v :: r, he, h => by
  rw [entB2_cons] at he
  rw [Bool.and_eq_true, Bool.and_eq_true, decide_eq_true_eq] at he
  have hk : hasB k = true := by unfold hasB; rw [he.1.1]; rfl
  simp only [cleanL_cons]
  rw [h k (by simp) hk, cleanL_id he.2 fun w hw => h w (by simp [hw])]; rfl
theorem kept_id {lv : List Int} (cb : DValue) : ∀ {l : List DValue}, entB4 l = true → AddrIn lv l → keptE lv l = l ∧ toldE lv cb l = []
 | [], _, _ => ⟨rfl, rfl⟩
 | [_], h, _ => by cases h
 | [_, _], h, _ => by cases h
 | [_, _, _], h, _ => by cases h
 | t :: a :: k :: s :: r, he, h => by
  rw [entB4_cons] at he
  simp only [Bool.and_eq_true, decide_eq_true_eq] at he
  obtain ⟨⟨⟨h1, -⟩, -, -⟩, h5⟩ := he
  have ht := h t (by simp) (by unfold hasB; rw [h1]; rfl)
  obtain ⟨i1, i2⟩ := kept_id cb h5 fun w hw => h w (by simp [hw])
  simp only [keptE_cons, toldE_cons]
  rw [decide_eq_true ht, i1, i2]
  refine ⟨?_, rfl⟩
  have hk : (decide (k.Kind = 7) && !decide (k.N ∈ lv)) = false := by
   by_cases h7 : k.Kind = 7
   ·rw [decide_eq_true (h k (by simp) (by unfold hasB; rw [h7]; rfl))]; simp
   ·rw [decide_eq_false h7]; rfl
  rw [hk]; rfl
theorem clean_id {N : Nat} (hN : 2000 < N) {lv : List Int} {c : DCell} (hr : rightB c = true) (hS : c.Slots.length ≤ 600) (hM : c.More.length ≤ 600) (h : AddrIn lv c.More) : clC N lv c = c ∧ told lv c = [] := by
 have hp := (right_parts hr).2.2
 by_cases h8 : c.Kind = 8
 ·rw [h8] at hp
  have e : clC N lv c = ⟨c.Kind, c.Shape, c.Flags, c.Age, c.Slots, cleanL (fun x => decide (x ∈ lv)) c.More⟩ := by
   unfold clC cleanW
   rw [isWM_right hN hr hS hM, decide_eq_true h8]; rfl
  refine ⟨?_, by unfold told; rw [decide_eq_false (p := c.Kind = 10) (by omega)]; rfl⟩
  rw [e, cleanL_id hp fun v hv hb => decide_eq_true (h v hv hb)]
 ·by_cases h10 : c.Kind = 10
  ·rw [h10] at hp
   have hp' : (decide (1 ≤ c.More.length) && decide ((atL c.More 0).Kind = 7) && entB4 (c.More.drop 1)) = true := hp
   simp only [Bool.and_eq_true, decide_eq_true_eq] at hp'
   obtain ⟨i1, i2⟩ := kept_id (lv := lv) (c.More.headD zeroV) hp'.2 fun v hv => h v (List.mem_of_mem_drop hv)
   refine ⟨?_, ?_⟩
   ·rw [CellOk.clC10 h10, i1, List.take_append_drop]
   ·unfold told cleanF
    rw [decide_eq_true h10, i2]; rfl
  ·exact ⟨CellOk.clC0 h8 h10, by unfold told; rw [decide_eq_false h10]; rfl⟩
theorem rho_at {f : List Int} (hn : f.Nodup) {i : Nat} (hi : i < f.length) : rho f f[i] = 2 * (i : Int) + 2 := by
 unfold rho
 have hm : f[i] ∈ f := List.getElem_mem _
 have e : f.idxOf f[i] = i := by
  rcases Nat.lt_trichotomy (f.idxOf f[i]) i with h2 | h2 | h2
  ·exact absurd (idx_get hm) (List.pairwise_iff_getElem.1 (List.nodup_iff_pairwise_ne.1 hn) _ _ (idx_lt hm) hi h2)
  ·exact h2
  ·exact absurd (idx_get hm).symm (List.pairwise_iff_getElem.1 (List.nodup_iff_pairwise_ne.1 hn) _ _ hi (idx_lt hm) h2)
 rw [e]
def evens (n : Nat) : List Int := (List.range n).map fun i : Nat => 2 * (i : Int) + 2
theorem rho_map {f : List Int} (hn : f.Nodup) : f.map (rho f) = evens f.length := by
 unfold evens
 refine List.ext_getElem (by simp) fun i h1 h2 => ?_
 simp only [List.getElem_map, List.getElem_range]
 exact rho_at hn (by simpa using h1)
theorem evens_asc (n : Nat) : (evens n).Pairwise (· < ·) := by
 unfold evens
 rw [List.pairwise_map]
 exact List.pairwise_lt_range.imp fun h => by omega
theorem evens_ord (n : Nat) : newOrd (evens n) = evens n := by
 have h : ∀ a ∈ evens n, evenB a = true ∧ oddB a = false := fun a ha => by
  unfold evens at ha
  obtain ⟨i, -, rfl⟩ := List.mem_map.1 ha
  unfold evenB oddB
  have e : (2 * (i : Int) + 2).tmod 2 = 0 := by rw [Int.tmod_eq_emod_of_nonneg (by omega)]; omega
  rw [e]; exact ⟨rfl, rfl⟩
 unfold newOrd
 rw [List.filter_eq_self.2 fun a ha => (h a ha).1, List.filter_eq_nil_iff.2 fun a ha => by rw [(h a ha).2]; simp, List.append_nil]
theorem evens_get {n i : Nat} (h : i < (evens n).length) : (evens n)[i] = 2 * (i : Int) + 2 := by simp [evens]
theorem evens_rho {n : Nat} {a : Int} (ha : a ∈ evens n) : rho (evens n) a = a := by
 obtain ⟨i, hi, e⟩ := List.getElem_of_mem ha
 have h1 := rho_at (asc_nodup (evens_asc n)) hi
 rw [e] at h1
 rw [h1, ← e, evens_get]
theorem evens_mov (n : Nat) (v : DValue) : movV (rho (evens n)) (evens n) v = v := by
 unfold movV
 cases h : hasB v && decide (v.N ∈ evens n) with
 | false => rfl
 | true =>
  rw [Bool.and_eq_true, decide_eq_true_eq] at h
  show (⟨v.Kind, rho (evens n) v.N, v.S⟩ : DValue) = v
  rw [evens_rho h.2]
theorem evens_movs (n : Nat) (l : List DValue) : l.map (movV (rho (evens n)) (evens n)) = l := by
 have : movV (rho (evens n)) (evens n) = id := funext fun v => evens_mov n v
 rw [this, List.map_id]
theorem evens_movC (n : Nat) (c : DCell) : movC (rho (evens n)) (evens n) c = c := by
 unfold movC; rw [evens_movs, evens_movs]
end Go.Proofs.YtmbaennilhdieaaGreat
/- Plain: MajorTight. -/
namespace Go.Proofs.YtmbaennilhdieaaGreat
open Go.RowKit
def goneM (m : DMemory) (live f : List Int) : List DValue := f.flatMap fun a => told live (atM m a)
section
variable {N : Nat} {m : DMemory} {roots : List DValue} {live f : List Int} (h : CollCtx N m roots live f)
include h
theorem CollCtx.goneIn : AddrIn f (goneM m live f) := fun v hv hb => by
 obtain ⟨a, ha, hv⟩ := List.mem_flatMap.1 hv
 exact (h.cell ha).toldIn v hv hb
theorem CollCtx.gone64 : ∀ v ∈ (goneM m live f).map (movV (rho f) f), in64 v.N := fun v hv => by
 have hl := h.flen
 obtain ⟨w, hw, rfl⟩ := List.mem_map.1 hv
 refine movV_in64 (by omega) ?_
 obtain ⟨a, ha, hw⟩ := List.mem_flatMap.1 hw
 unfold told at hw
 cases h10 : decide ((atM m a).Kind = 10) with
 | false => rw [h10] at hw; cases hw
 | true =>
  rw [h10] at hw
  rcases told_mem hw with rfl | hw
  ·cases hm : (atM m a).More with
   | nil => show in64 0; unfold in64; omega
   | cons x r => exact h.w64.at_ a x (List.mem_append_right _ (by rw [hm]; simp))
  ·exact h.w64.at_ a w (List.mem_append_right _ (List.mem_of_mem_drop hw))
theorem CollCtx.nextTot : (roots.map (movV (rho f) f) ++ (goneM m live f).map (movV (rho f) f)).length + wt (nextM N m live f).Young + wt (nextM N m live f).Old ≤ roots.length + wt m.Young + wt m.Old := by
 have h1 := told_sum h.lv
 have e0 : (nextM N m live f).Young = [] := rfl
 have e1 : (nextM N m live f).Old = f.map fun a => movC (rho f) f (clC N live (atM m a)) := rfl
 rw [e0, e1, List.length_append, List.length_map, List.length_map]
 unfold goneM
 have e2 : wt [] = 0 := rfl
 omega
theorem CollCtx.again (hlen : (roots.map (movV (rho f) f) ++ (goneM m live f).map (movV (rho f) f)).length ≤ 600) :
  CollCtx N (nextM N m live f) (roots.map (movV (rho f) f) ++ (goneM m live f).map (movV (rho f) f)) (evens f.length) (evens f.length) ∧
  collS N (nextM N m live f) (roots.map (movV (rho f) f) ++ (goneM m live f).map (movV (rho f) f)) (evens f.length) (evens f.length) = ⟨nextM N m live f, roots.map (movV (rho f) f) ++ (goneM m live f).map (movV (rho f) f), []⟩ := by
 have hN := h.big
 have hs2 := h.nextS _ hlen
 have w2 := h.nextW
 have hall : AddrIn f (roots ++ goneM m live f) := fun v hv hb => (List.mem_append.1 hv).elim (fun hv => h.rootIn v hv hb) fun hv => h.goneIn v hv hb
 have r2 : ∀ v ∈ roots.map (movV (rho f) f) ++ (goneM m live f).map (movV (rho f) f), in64 v.N := fun v hv => (List.mem_append.1 hv).elim (h.now64 v) (h.gone64 v)
 have tot2 : Wtd (nextM N m live f) (roots.map (movV (rho f) f) ++ (goneM m live f).map (movV (rho f) f)) := by
  have h1 := h.nextTot
  have h2 := h.tot.le
  have h3 := h.flen6
  refine ⟨by omega, ?_⟩
  show ([] : List DCell).length + (f.map fun a => movC (rho f) f (clC N live (atM m a))).length ≤ 600
  rw [List.length_map]; simpa using h3
 rw [← List.map_append] at hlen hs2 r2 tot2 ⊢
 generalize hR : roots ++ goneM m live f = R at *
 obtain ⟨live2, f2, L2⟩ := live_ok N hN hs2 w2 r2
 have L2' := L2
 obtain ⟨b2, all2, i2, e2, ef2⟩ := L2'.ord
 obtain ⟨b1, all1, i1, e1, ef1⟩ := h.lv.ord
 have hall1 : ∀ x, x ∈ all1 ↔ x ∈ f := fun x => by rw [← h.mem x, e1]; exact (sortL_mem all1 x).symm
 obtain ⟨c1, c2⟩ := i2.closed
 have roots2 : ∀ v ∈ R, hasB v = true → rho f v.N ∈ all2 := fun v hv hb => by
  have hf := hall v hv hb
  have : rho f v.N ∈ addrL (R.map (movV (rho f) f)) := by
   rw [addrL_mov hall]
   exact List.mem_map.2 ⟨v.N, addrL_mem.2 ⟨v, hv, hb, rfl⟩, rfl⟩
  exact i2.sub (i2.roots this (next_has hf))
 have hS : ClosedS (grM N m) (fun a => a ∈ f ∧ rho f a ∈ all2) := by
  refine ⟨fun a ha x hx _ => ?_, fun row hrow a ha x hx _ => ?_⟩
  ·have hx' : x ∈ leadsL (atM m a) := hx
   have hxf := (h.cell ha.1).leads x hx'
   refine ⟨hxf, ?_⟩
   rcases CellOk.strong (rho_ren f) (h.cell ha.1) hx' with h1 | ⟨v, hv, hb, rfl⟩
   ·refine c1 (rho f a) ha.2 (rho f x) ?_ (next_has hxf)
    show rho f x ∈ leadsL (atM (nextM N m live f) (rho f a))
    rw [next_at ha.1]; exact h1
   ·exact roots2 v (by rw [← hR]; exact List.mem_append_right _ (List.mem_flatMap.2 ⟨a, ha.1, hv⟩)) hb
  ·have hx' : x ∈ opensL N (atM m a) row := hx
   have hc := h.cell ha.1
   unfold opensL at hx'
   cases hw : isWM N (atM m a) with
   | false => rw [hw] at hx'; cases hx'
   | true =>
    rw [hw, cond_true] at hx'
    have h8 : (atM m a).Kind = 8 := by
     rw [hc.wm] at hw; exact of_decide_eq_true hw
    have hxf : x ∈ f := by
     refine hc.opens x ?_
     unfold opensL
     rw [hw, cond_true]
     exact opens_mono (fun y hy => decide_eq_true ((h.mem y).2 (hrow y (of_decide_eq_true hy)).1)) hx'
    refine ⟨hxf, c2 (rho f a) ha.2 (rho f x) ?_ (next_has hxf)⟩
    show rho f x ∈ opensL N (atM (nextM N m live f) (rho f a)) all2
    rw [next_at ha.1]
    obtain ⟨g1, g2, g3, g4⟩ := CellOk.new (rho_ren f) hc
    unfold opensL
    rw [isWM_right hc.big g1 g2 g3, g4, decide_eq_true h8, cond_true, hc.clC8 h8]
    exact opens_img hrow h.mem hxf (hc.ent2 h8) hx'
 have hin := i1.in_ hS fun x hx _ => ⟨h.root hx, by
  obtain ⟨v, hv, hb, rfl⟩ := addrL_mem.1 hx
  exact roots2 v (by rw [← hR]; exact List.mem_append_left _ hv) hb⟩
 have hmem2 : ∀ y, y ∈ all2 ↔ y ∈ evens f.length := fun y => by
  rw [← rho_map h.lv.nd]
  constructor
  ·intro hy
   obtain ⟨a, ha, rfl⟩ := next_form (i2.has.2 y hy) h.lv.nd
   exact List.mem_map.2 ⟨a, ha, rfl⟩
  ·intro hy
   obtain ⟨a, ha, rfl⟩ := List.mem_map.1 hy
   exact (hin a ((hall1 a).2 ha)).2
 have el : live2 = evens f.length := by rw [e2]; exact sortL_eq i2.nodup.2 (evens_asc _) hmem2
 have ef : f2 = evens f.length := by rw [ef2, el, evens_ord]
 rw [el, ef] at L2
 have hev : ∀ {x : Int}, hasM (nextM N m live f) x = true → x ∈ evens f.length := fun hx => by
  obtain ⟨a, ha, rfl⟩ := next_form hx h.lv.nd
  rw [← rho_map h.lv.nd]
  exact List.mem_map.2 ⟨a, ha, rfl⟩
 have hOld : ∀ c ∈ (nextM N m live f).Young ++ (nextM N m live f).Old, rightB c = true ∧ ∀ x ∈ addrC c, hasM (nextM N m live f) x = true := fun c hc => h.nextAddr hc
 refine ⟨⟨hN, hs2, tot2, w2, r2, L2, fun c hc => (hOld c hc).1, fun c hc => (hOld c hc).2, fun x hx => ?_⟩, ?_⟩
 ·obtain ⟨v, hv, hb, rfl⟩ := addrL_mem.1 hx
  exact h.newHas hall hv hb
 ·unfold collS
  rw [evens_movs]
  have hcell : ∀ y ∈ evens f.length, clC N (evens f.length) (atM (nextM N m live f) y) = atM (nextM N m live f) y ∧ told (evens f.length) (atM (nextM N m live f) y) = [] := fun y hy => by
   have hyh : hasM (nextM N m live f) y = true := by
    rw [← rho_map h.lv.nd] at hy
    obtain ⟨a, ha, rfl⟩ := List.mem_map.1 hy
    exact next_has ha
   have hm := atM_mem hyh
   obtain ⟨g1, g2⟩ := hOld _ hm
   have hc := hs2.cells _ hm
   exact clean_id (by omega) g1 hc.1 hc.2 fun v hv hb => hev (g2 _ (addr_in (List.mem_append_right _ hv) hb))
  have e1 : ((evens f.length).map fun a => movC (rho (evens f.length)) (evens f.length) (clC N (evens f.length) (atM (nextM N m live f) a))) = (nextM N m live f).Old := by
   have hol : (nextM N m live f).Old.length = f.length := by unfold nextM; simp
   refine List.ext_getElem (by rw [hol]; unfold evens; simp) fun i g1 g2 => ?_
   simp only [List.getElem_map]
   rw [evens_movC, (hcell _ (List.getElem_mem _)).1]
   rw [evens_get, atM_o _ _ g2]
  have e3 : ((evens f.length).flatMap fun a => told (evens f.length) (atM (nextM N m live f) a)) = [] := by
   rw [List.flatMap_eq_nil_iff]
   exact fun y hy => (hcell y hy).2
  rw [e1, e3]
  rfl
end
theorem ctx_check {N : Nat} {m : DMemory} {roots : List DValue} {live f : List Int} (h : CollCtx N m roots live f) : checkM N m roots = 0 := by
 have hN := h.big
 unfold checkM
 have h1 : (m.Young ++ m.Old).all (rightC N) = true := by
  rw [List.all_eq_true]
  intro c hc
  have := h.small.cells c hc
  rw [rightC_B (by omega) this.1 this.2]; exact h.right c hc
 have h2 : wholeB m ((m.Young ++ m.Old).flatMap addrC ++ addrL roots) = true := by
  unfold wholeB
  rw [List.all_eq_true]
  intro x hx
  rcases List.mem_append.1 hx with hx | hx
  ·obtain ⟨c, hc, hx⟩ := List.mem_flatMap.1 hx
   exact h.addr c hc x hx
  ·exact h.roots x hx
 rw [h1, h2]; rfl
theorem tight_law {m : DMemory} {roots : List DValue} (hb : Bnd 140737488355328 m roots) (hw : W64 m) (hr : ∀ v ∈ roots, in64 v.N) : w22_MajorTight_O 6000 m roots = some true := by
 apply Sat.eq
 unfold w22_MajorTight_O
 refine Sat.bind (few_tot 6000 (by decide) hb) fun b hfew => ?_
 refine sat_not (fun _ => ?_) fun hb1 => ?_
 ·rw [goes22_true]; exact sat_some rfl
 have h6 := hfew hb1
 obtain ⟨live, f, hl⟩ := live_ok 6000 (by decide) h6.small hw hr
 have hcoll := collect_prog 6000 (by decide) h6.small h6.wtd hw hr hl
 unfold collR at hcoll
 by_cases h0 : ¬ checkM 6000 m roots = 0
 ·rw [eq_f h0, cond_false] at hcoll
  rw [hcoll, bs]
  dsimp only
  rw [eq_f h0, nf, ct, goes22_true]
  exact sat_some rfl
 replace h0 : checkM 6000 m roots = 0 := by omega
 have h := ctx_of (by decide) h6.small h6.wtd hw hr hl h0
 rw [eq_t h0, cond_true] at hcoll
 have hcoll' : major_Collect_O 6000 m roots = some (nextM 6000 m live f, roots.map (movV (rho f) f), (goneM m live f).map (movV (rho f) f), 0) := hcoll
 rw [hcoll', bs]
 dsimp only
 rw [decide_eq_true (p := (0 : Int) = 0) rfl, nt, cf]
 have h66 : roots.length + wt m.Young + wt m.Old ≤ 600 := h6
 have hlen : (roots.map (movV (rho f) f) ++ (goneM m live f).map (movV (rho f) f)).length ≤ 600 := by have := h.nextTot; omega
 obtain ⟨hA, hB⟩ := h.again hlen
 have hmod : ((goneM m live f).map (movV (rho f) f)).length % 3 = 0 := by
  rw [List.length_map]
  exact flat_mod _ f fun a => by unfold told; cases decide ((atM m a).Kind = 10); rfl; exact told_mod _ _ _
 have hol : (nextM 6000 m live f).Old.length = f.length := by unfold nextM; simp
 have hlen2 := hlen
 rw [List.length_append] at hlen2
 have hnil : ([] : List DValue) ++ roots.map (movV (rho f) f) = roots.map (movV (rho f) f) := List.nil_append _
 rw [rF (by simp only [List.length_nil]; omega), rF (by rw [hnil]; omega)]
 have ey : (nextM 6000 m live f).Young = [] := rfl
 have hfl := hl.len
 have hev : (evens f.length).length = f.length := by unfold evens; simp
 rw [decide_eq_true (p := (((nextM 6000 m live f).Young.length : Nat) : Int) = 0) rfl, nt, cf, hl.ref, bs, decide_eq_true (p := ((nextM 6000 m live f).Old.length : Int) = (live.length : Int)) (by omega), nt, bs, cf]
 have hA' := hA.lv.ref
 rw [← hnil] at hA'
 rw [hA', bs, decide_eq_true (p := ((evens f.length).length : Int) = ((nextM 6000 m live f).Old.length : Int)) (by omega), nt, bs, cf]
 rw [decide_eq_true (p := (((goneM m live f).map (movV (rho f) f)).length : Int).tmod 3 = 0) (by rw [Int.tmod_eq_emod_of_nonneg (by omega)]; omega), nt, bs]
 unfold w22_MajorTight_j21
 have hcoll2 := collect_prog 6000 (by decide) hA.small hA.tot hA.w64 hA.r64 hA.lv
 unfold collR at hcoll2
 rw [eq_t (ctx_check hA), cond_true, hB, ← hnil] at hcoll2
 dsimp only at hcoll2
 rw [cf, hcoll2, bs]
 dsimp only
 have hcl : ∀ c ∈ (nextM 6000 m live f).Old, c.Slots.length ≤ 5000 ∧ c.More.length ≤ 5000 := fun c hc => by have := hA.small.cells c (List.mem_append_right _ hc); omega
 have hf6 := h.flen6
 rw [decide_eq_true (p := (0 : Int) = 0) rfl, ct, cells19 6000 _ _ (by omega) (by omega) (by decide) hcl, decide_eq_true (p := (nextM 6000 m live f).Old = (nextM 6000 m live f).Old) rfl, bs, bs, ct, decide_eq_true (p := (((nextM 6000 m live f).Young.length : Nat) : Int) = 0) rfl, bs, ct, sameV 6000 _ _ (by rw [hnil]; omega) (by rw [hnil]; omega), decide_eq_true (p := ([] : List DValue) ++ roots.map (movV (rho f) f) ++ (goneM m live f).map (movV (rho f) f) = ([] : List DValue) ++ roots.map (movV (rho f) f) ++ (goneM m live f).map (movV (rho f) f)) rfl, bs, bs, ct, decide_eq_true (p := ((([] : List DValue).length : Nat) : Int) = 0) rfl, bs, ct, goes22_true, bs, bs]
 exact sat_some rfl
theorem tight_top (m : DMemory) (roots : List DValue) (hm : wfwDMemory m) (hr : WfL (fun z => wfwDValue z) roots) : w22_MajorTight_O 6000 m roots = some true := by
 obtain ⟨h1, h2, h3⟩ := read_mem m roots hm hr
 exact tight_law h1 h2 h3
end Go.Proofs.YtmbaennilhdieaaGreat