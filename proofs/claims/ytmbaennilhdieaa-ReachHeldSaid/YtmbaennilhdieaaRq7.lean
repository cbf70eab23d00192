/- Plain: the traversal, whole. -/
import Derived.Test.YtmbaennilhdieaaRq6
namespace Go.Proofs.Ytmbaennilhdieaa
open Go.RowKit

theorem begin_spec (N : Nat) (hN : 5000 < N) {m : DMemory} {roots : List DValue} (hs : Small m roots) (hw : W64 m) (hr : ∀ v ∈ roots, in64 v.N) :
    Sat (reach_begin_O N m roots) fun r => r.m_ = m ∧ r.done_ = (r.all_.length : Int) ∧ Tr m r.all_ r.met_ ∧ Clo m r.all_ r.all_.length ∧ ∀ v ∈ roots, hasB v = true → hasM m v.N = true → v.N ∈ r.all_ := by
  have hrl := hs.roots
  unfold reach_begin_O
  refine loop_inv (fun k i (s : List Int × List (Int × Unit)) => reach_begin_l14 N roots k (i : Int) m.Young m.Old s.1 s.2 0) roots.length (fun i s => Tr m s.1 s.2 ∧ ∀ v ∈ roots.take i, hasB v = true → hasM m v.N = true → v.N ∈ s.1) _ ?_ ?_ N 0 ([], []) (by omega) (by omega) ⟨⟨by simp, by simp, by simp⟩, by simp⟩
  · rintro k i ⟨al, mt⟩ hi ⟨h1, h2⟩ go
    show Sat (reach_begin_l14 N roots (k + 1) (i : Int) m.Young m.Old al mt 0) _
    simp only at h1 h2
    have hx64 := hr roots[i] (List.getElem_mem _)
    have ha : reach_address_O N roots[i] = some (roots[i].N, hasB roots[i]) := by
      unfold reach_address_O; rw [kind_has, bs]
    rw [reach_begin_l14_s, lt_t (by omega), ct, getE_n hi, bs]
    unfold reach_begin_c1_O
    rw [ha, bs]
    cases hb : hasB roots[i]
    · simp only [cf, bs]
      rw [r64 (by omega) (by omega)]
      refine go (al, mt) ⟨h1, fun v hv hk hh => ?_⟩
      rw [take_succ_get hi, List.mem_append, List.mem_singleton] at hv
      rcases hv with hv | rfl
      · exact h2 v hv hk hh
      · rw [hb] at hk; cases hk
    · simp only [ct]
      obtain ⟨⟨m', al', mt', d'⟩, e0, e1, e2, h5, ⟨t', h6⟩, h7⟩ := lay_spec N hN hs 0 [roots[i].N] (by simp) (by intro x hx; rw [List.mem_singleton] at hx; subst hx; exact hx64) h1
      simp only at e1 e2 h5 h6 h7
      subst e1 e2
      have e0' : reach_row_lay_O N ⟨⟨m'.Young, m'.Old⟩, al, mt, 0⟩ [roots[i].N] = some ⟨m', al', mt', 0⟩ := e0
      rw [e0', bs, bs]
      dsimp only
      rw [r64 (by omega) (by omega)]
      refine go (al', mt') ⟨h5, fun v hv hk hh => ?_⟩
      rw [take_succ_get hi, List.mem_append, List.mem_singleton] at hv
      rcases hv with hv | rfl
      · show v.N ∈ al'
        rw [h6]; exact List.mem_append_left _ (h2 v hv hk hh)
      · exact h7 _ (by simp) hh
  · rintro k ⟨al, mt⟩ ⟨h1, h2⟩
    show Sat (reach_begin_l14 N roots (k + 1) _ m.Young m.Old al mt 0) _
    rw [reach_begin_l14_s, lt_f (by omega), cf]
    unfold reach_begin_j8
    refine Sat.bind (through_spec N hN hs hw h1 0 (Nat.zero_le _) (fun i a x hi => absurd hi (by omega))) ?_
    rintro r ⟨e1, e2, h5, ⟨t, h6⟩, h7⟩
    refine sat_some ⟨e1, e2, h5, h7, fun v hv hk hh => ?_⟩
    rw [h6]; exact List.mem_append_left _ (h2 v (by rwa [List.take_length]) hk hh)
/-- the weak maps among the discovered cells open nothing new -/
def OpC (N : Nat) (m : DMemory) (all : List Int) (k : Nat) : Prop := ∀ (i : Nat) (a x : Int), i < k → all[i]? = some a → x ∈ opensL N (atM m a) all → hasM m x = true → x ∈ all
theorem opens_ok {N : Nat} {m : DMemory} {roots : List DValue} (hs : Small m roots) (hw : W64 m) (a : Int) (l : List Int) : (opensL N (atM m a) l).length ≤ 2000 ∧ ∀ x ∈ opensL N (atM m a) l, in64 x := by
  have h1 := hs.at_ a
  have h2 := opensL_len N (atM m a) l
  refine ⟨by omega, fun x hx => ?_⟩
  obtain ⟨v, h3, rfl⟩ := opensL_mem hx
  exact hw.at_ a v h3
theorem pass_spec (N : Nat) (hN : 5000 < N) {m : DMemory} {roots : List DValue} (hs : Small m roots) (hw : W64 m) {all : List Int} {met : List (Int × Unit)} (ht : Tr m all met) (d : Int) :
    Sat (reach_row_pass_O N ⟨m, all, met, d⟩) fun r => r.2.m_ = m ∧ r.2.done_ = d ∧ Tr m r.2.all_ r.2.met_ ∧ (∃ t, r.2.all_ = all ++ t) ∧ r.1 = decide ((all.length : Int) < (r.2.all_.length : Int)) ∧ (r.2.all_ = all → OpC N m all all.length) := by
  have hlen := ht.len hs
  unfold reach_row_pass_O
  refine loop_inv (fun k i (s : List Int × List (Int × Unit)) => reach_row_pass_l13 N ⟨m, all, met, d⟩ k (i : Int) m.Young m.Old s.1 s.2 d) all.length (fun i s => Tr m s.1 s.2 ∧ (∃ t, s.1 = all ++ t) ∧ (s.1 = all → OpC N m all i)) _ ?_ ?_ N 0 (all, met) (by omega) (by omega) ⟨ht, ⟨[], by simp⟩, fun _ i a x hi => absurd hi (by omega)⟩
  · rintro k i ⟨al, mt⟩ hi ⟨h1, ⟨t, h2⟩, h3⟩ go
    show Sat (reach_row_pass_l13 N ⟨m, all, met, d⟩ (k + 1) (i : Int) m.Young m.Old al mt d) _
    simp only at h1 h2 h3
    have hlen1 := h1.len hs
    have htk : List.take all.length al = all := by rw [h2, List.take_left']; rfl
    have hx := List.getElem_mem hi
    have hsm := hs.at_ all[i]
    have hat : reach_At_O N ⟨m.Young, m.Old⟩ all[i] = some (atM m all[i]) := at_prog N hs all[i] (ht.in64 hs hx)
    have step : ∀ (al' : List Int) (t' : List Int), al' = al ++ t' → (al' = all → ∀ x ∈ opensL N (atM m all[i]) all, hasM m x = true → x ∈ all) → al' = all → OpC N m all (i + 1) := fun al' t' e hn he j a x hj ha hx hh => by
      rcases Nat.lt_or_ge j i with hji | hji
      · have : al = all := by
          have : (al ++ t').length = all.length := by rw [← e, he]
          rw [List.length_append, h2, List.length_append] at this
          have h0 : t = [] := List.eq_nil_of_length_eq_zero (by omega)
          rw [h2, h0, List.append_nil]
        exact h3 this j a x hji ha hx hh
      · have : j = i := by omega
        subst this
        rw [List.getElem?_eq_getElem hi, Option.some.injEq] at ha
        subst ha
        exact hn he x hx hh
    rw [reach_row_pass_l13_s]
    simp only [List.take_length]
    rw [lt_t (by omega), ct, htk, getE_n hi, bs, hat, bs]
    unfold reach_row_pass_j21
    by_cases h8 : (atM m all[i]).Kind = 8
    · rw [eq_t h8, ct, opens_prog N hN al (by omega) _ (by omega) (by omega), bs]
      obtain ⟨hl1, hl2⟩ := opens_ok (N := N) hs hw all[i] al
      obtain ⟨⟨m', al', mt', d'⟩, e0, e1, e2, h5, ⟨t', h6⟩, h7⟩ := lay_spec N hN hs d _ hl1 hl2 h1
      simp only at e1 e2 h5 h6 h7
      subst e1 e2
      have e0' : reach_row_lay_O N ⟨⟨m'.Young, m'.Old⟩, al, mt, d'⟩ (opensL N (atM m' all[i]) al) = some ⟨m', al', mt', d'⟩ := e0
      rw [e0', bs]
      dsimp only
      rw [r64 (by omega) (by omega)]
      refine go (al', mt') ⟨h5, ⟨t ++ t', by show al' = _; rw [h6, h2, List.append_assoc]⟩, step al' t' h6 fun he x hx hh => ?_⟩
      have hall : al = all := by
        have : (al ++ t').length = all.length := by rw [← h6, he]
        rw [List.length_append, h2, List.length_append] at this
        have h0 : t = [] := List.eq_nil_of_length_eq_zero (by omega)
        rw [h2, h0, List.append_nil]
      rw [← he]
      exact h7 x (by rw [hall]; exact hx) hh
    · rw [eq_f h8, cf, r64 (by omega) (by omega)]
      refine go (al, mt) ⟨h1, ⟨t, h2⟩, step al [] (by simp) fun he x hx hh => ?_⟩
      unfold opensL isW at hx
      rw [eq_f h8] at hx
      cases hx
  · rintro k ⟨al, mt⟩ ⟨h1, ⟨t, h2⟩, h3⟩
    show Sat (reach_row_pass_l13 N ⟨m, all, met, d⟩ (k + 1) _ m.Young m.Old al mt d) _
    rw [reach_row_pass_l13_s]
    simp only [List.take_length]
    rw [lt_f (by omega), cf]
    exact sat_some ⟨rfl, rfl, h1, ⟨t, h2⟩, rfl, h3⟩
theorem order_spec (N : Nat) (hN : 5000 < N) {m : DMemory} {roots : List DValue} (hs : Small m roots) (hw : W64 m) (hr : ∀ v ∈ roots, in64 v.N) :
    ∃ b, reach_begin_O N m roots = some b ∧ Tr m b.all_ b.met_ ∧ Sat (reach_Order_O N m roots) fun all => all.Nodup ∧ all.length ≤ 1200 ∧ (∀ x ∈ all, hasM m x = true) ∧ (∀ x ∈ b.all_, x ∈ all) ∧ (∀ v ∈ roots, hasB v = true → hasM m v.N = true → v.N ∈ all) ∧ Clo m all all.length ∧ OpC N m all all.length := by
  obtain ⟨⟨m', al0, mt0, d0⟩, e0, e1, e2, h1, h2, h3⟩ := begin_spec N hN hs hw hr
  simp only at e1 e2 h1 h2 h3
  subst e1 e2
  refine ⟨_, e0, h1, ?_⟩
  unfold reach_Order_O
  rw [e0, bs]
  refine loop_dec (fun f (s : List Int × List (Int × Unit)) => reach_Order_l17 N f m'.Young m'.Old s.1 s.2 (s.1.length : Int)) (fun s => 1300 - s.1.length) (fun s => Tr m' s.1 s.2 ∧ (∃ t, s.1 = al0 ++ t) ∧ Clo m' s.1 s.1.length) _ ?_ N (al0, mt0) (by show 1300 - al0.length < N; omega) ⟨h1, ⟨[], by simp⟩, h2⟩
  rintro f ⟨al, mt⟩ ⟨h4, ⟨t, h5⟩, h6⟩ go
  show Sat (reach_Order_l17 N (f + 1) m'.Young m'.Old al mt (al.length : Int)) _
  simp only at h4 h5 h6
  have hlen := h4.len hs
  rw [reach_Order_l17_s]
  obtain ⟨⟨b, m2, al2, mt2, d2⟩, g0, g1, g2, g3, ⟨t2, g4⟩, g5, g6⟩ := pass_spec N hN hs hw h4 (al.length : Int)
  simp only at g1 g2 g3 g4 g5 g6
  subst g1 g2
  have hlen2 := g3.len hs
  have g0' : reach_row_pass_O N ⟨⟨m2.Young, m2.Old⟩, al, mt, (al.length : Int)⟩ = some (b, ⟨m2, al2, mt2, (al.length : Int)⟩) := g0
  rw [g0', bs]
  dsimp only
  rw [g5]
  refine sat_dec (fun hlt => ?_) fun hge => ?_
  · have hk : al.length ≤ al2.length := by omega
    have hc : Clo m2 al2 al.length := by rw [g4]; exact h6.app (Nat.le_refl _)
    refine Sat.bind (through_spec N hN hs hw g3 al.length hk hc) ?_
    rintro ⟨m3, al3, mt3, d3⟩ ⟨k1, k2, k3, ⟨t3, k4⟩, k5⟩
    simp only at k1 k2 k3 k4 k5
    subst k1 k2
    have hlen3 := k3.len hs
    refine go (al3, mt3) ?_ ⟨k3, ⟨t ++ t2 ++ t3, by show al3 = _; rw [k4, g4, h5]; simp [List.append_assoc]⟩, k5⟩
    show 1300 - al3.length < 1300 - al.length
    have : al2.length ≤ al3.length := by rw [k4, List.length_append]; omega
    omega
  · have e : al2 = al := by
      have h0 : t2 = [] := List.eq_nil_of_length_eq_zero (by rw [g4, List.length_append] at hge; omega)
      rw [g4, h0, List.append_nil]
    subst e
    unfold reach_Order_j11
    refine sat_some ⟨h4.nd, by omega, h4.has, fun x hx => ?_, fun v hv hk hh => ?_, h6, g6 rfl⟩
    · rw [h5]; exact List.mem_append_left _ hx
    · rw [h5]; exact List.mem_append_left _ (h3 v hv hk hh)
end Go.Proofs.Ytmbaennilhdieaa
