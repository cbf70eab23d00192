/- Plain: the program's traversal is the one of the relation. -/
import Derived.Test.YtmbaennilhdieaaRq6
import Derived.Test.YtmbaennilhdieaaRs1
namespace Go.Proofs.Ytmbaennilhdieaa
open Go.RowKit

def grM (N : Nat) (m : DMemory) : Gr := ⟨hasM m, fun a => leadsL (atM m a), fun row a => opensL N (atM m a) row⟩
def addrL (l : List DValue) : List Int := (l.filter hasB).map (·.N)
theorem addrL_app (l l' : List DValue) : addrL (l ++ l') = addrL l ++ addrL l' := by unfold addrL; simp
theorem lay_fun (N : Nat) {m : DMemory} {roots : List DValue} (hN : 5000 < N) (hs : Small m roots) (d : Int) (l : List Int) (hl : l.length ≤ 2000) (h64 : ∀ x ∈ l, in64 x) {all : List Int} {met : List (Int × Unit)} (ht : Tr m all met) :
    Sat (reach_row_lay_O N ⟨m, all, met, d⟩ l) fun r => r.m_ = m ∧ r.done_ = d ∧ Tr m r.all_ r.met_ ∧ r.all_ = layL (hasM m) all l := by
  unfold reach_row_lay_O
  refine loop_inv (fun k i (s : List Int × List (Int × Unit)) => reach_row_lay_l7 N l ⟨m, all, met, d⟩ k (i : Int) s.1 s.2) l.length (fun i s => Tr m s.1 s.2 ∧ s.1 = layL (hasM m) all (l.take i)) _ ?_ ?_ N 0 (all, met) (by omega) (by omega) ⟨ht, rfl⟩
  · rintro k i ⟨al, mt⟩ hi ⟨h1, h2⟩ go
    show Sat (reach_row_lay_l7 N l ⟨m, all, met, d⟩ (k + 1) i al mt) _
    simp only at h1 h2
    have hx64 := h64 l[i] (List.getElem_mem _)
    have hnext : layL (hasM m) all (l.take (i + 1)) = (bif hasM m l[i] && !decide (l[i] ∈ al) then al ++ [l[i]] else al) := by
      rw [take_succ_get hi, layL_two, ← h2]; rfl
    rw [reach_row_lay_l7_s, lt_t (by omega), ct, getE_n hi, bs, lk_mem]
    unfold reach_row_lay_j12
    rw [r64 (a := (i : Int) + 1) (by omega) (by omega), r64 (a := (i : Int) + 1) (by omega) (by omega)]
    by_cases hm : l[i] ∈ al
    · rw [decide_eq_true ((h1.mem _).2 hm)]
      simp only [nt, cf, bs]
      exact go (al, mt) ⟨h1, by rw [hnext, decide_eq_true hm]; simp⟩
    · rw [decide_eq_false (fun h => hm ((h1.mem _).1 h))]
      simp only [nf, ct, bs, has_prog N m _ hx64]
      cases hh : hasM m l[i]
      · simp only [cf]
        exact go (al, mt) ⟨h1, by rw [hnext, hh]; rfl⟩
      · simp only [ct]
        have hlen := h1.len hs
        rw [rF (by simp; omega)]
        exact go (al ++ [l[i]], upL mt l[i] ()) ⟨h1.add hm hh, by rw [hnext, hh, decide_eq_false hm]; rfl⟩
  · rintro k ⟨al, mt⟩ ⟨h1, h2⟩
    show Sat (reach_row_lay_l7 N l ⟨m, all, met, d⟩ (k + 1) _ al mt) _
    rw [reach_row_lay_l7_s, lt_f (by omega), cf]
    exact sat_some ⟨rfl, rfl, h1, by simpa using h2⟩
theorem through_fun (N : Nat) (hN : 5000 < N) {m : DMemory} {roots : List DValue} (hs : Small m roots) (hw : W64 m) {all : List Int} {met : List (Int × Unit)} (ht : Tr m all met) (k : Nat) (hk : k ≤ all.length) :
    Sat (reach_row_through_O N ⟨m, all, met, (k : Int)⟩) fun r => r.m_ = m ∧ r.done_ = (r.all_.length : Int) ∧ Tr m r.all_ r.met_ ∧ Thr (grM N m) all k r.all_ := by
  unfold reach_row_through_O
  refine loop_dec (fun f (s : List Int × List (Int × Unit) × Nat) => reach_row_through_l6 N f m.Young m.Old s.1 s.2.1 (s.2.2 : Int)) (fun s => 1300 - s.2.2) (fun s => Tr m s.1 s.2.1 ∧ s.2.2 ≤ s.1.length ∧ ∀ r, Thr (grM N m) s.1 s.2.2 r → Thr (grM N m) all k r) _ ?_ N (all, met, k) (by show 1300 - k < N; omega) ⟨ht, hk, fun _ h => h⟩
  rintro f ⟨al, mt, j⟩ ⟨h1, h3, h4⟩ go
  show Sat (reach_row_through_l6 N (f + 1) m.Young m.Old al mt (j : Int)) _
  simp only at h1 h3 h4
  have hlen := h1.len hs
  rw [reach_row_through_l6_s]
  by_cases hj : j < al.length
  · have hx := List.getElem_mem hj
    have hat := at_prog N hs al[j] (h1.in64 hs hx)
    have hsm := hs.at_ al[j]
    obtain ⟨hl1, hl2⟩ := leads_ok hs hw al[j]
    rw [lt_t (by omega), ct, getE_n hj, bs]
    have hat' : reach_At_O N ⟨m.Young, m.Old⟩ al[j] = some (atM m al[j]) := hat
    rw [hat', bs, leads_prog N (by omega) _ (by omega) (by omega), bs]
    refine Sat.bind (lay_fun N hN hs (j : Int) _ hl1 hl2 h1) ?_
    rintro ⟨m', al', mt', d'⟩ ⟨e1, e2, h5, h6⟩
    simp only at e1 e2 h5 h6
    subst e1 e2
    have hlen' := h5.len hs
    dsimp only
    rw [r64 (by omega) (by omega)]
    have hge : al.length ≤ al'.length := by
      obtain ⟨t, e, -⟩ := layL_app (hasM m') al (leadsL (atM m' al[j]))
      rw [h6, e, List.length_append]; omega
    have hgo := go (al', mt', j + 1) (by show 1300 - (j + 1) < 1300 - j; omega) ⟨h5, by show j + 1 ≤ al'.length; omega, fun r hr => h4 r (.step (List.getElem?_eq_getElem hj) (by rw [h6] at hr; exact hr))⟩
    simpa using hgo
  · have : j = al.length := by omega
    subst this
    rw [lt_f (by omega), cf]
    exact sat_some ⟨rfl, rfl, h1, h4 _ (.done (Nat.le_refl _))⟩
theorem begin_fun (N : Nat) (hN : 5000 < N) {m : DMemory} {roots : List DValue} (hs : Small m roots) (hw : W64 m) (hr : ∀ v ∈ roots, in64 v.N) :
    Sat (reach_begin_O N m roots) fun r => r.m_ = m ∧ r.done_ = (r.all_.length : Int) ∧ Tr m r.all_ r.met_ ∧ Thr (grM N m) (layL (hasM m) [] (addrL roots)) 0 r.all_ := by
  have hrl := hs.roots
  unfold reach_begin_O
  refine loop_inv (fun k i (s : List Int × List (Int × Unit)) => reach_begin_l14 N roots k (i : Int) m.Young m.Old s.1 s.2 0) roots.length (fun i s => Tr m s.1 s.2 ∧ s.1 = layL (hasM m) [] (addrL (roots.take i))) _ ?_ ?_ N 0 ([], []) (by omega) (by omega) ⟨⟨by simp, by simp, by simp⟩, rfl⟩
  · rintro k i ⟨al, mt⟩ hi ⟨h1, h2⟩ go
    show Sat (reach_begin_l14 N roots (k + 1) (i : Int) m.Young m.Old al mt 0) _
    simp only at h1 h2
    have hx64 := hr roots[i] (List.getElem_mem _)
    have ha : reach_address_O N roots[i] = some (roots[i].N, hasB roots[i]) := by
      unfold reach_address_O; rw [kind_has, bs]
    have hnext : layL (hasM m) [] (addrL (roots.take (i + 1))) = layL (hasM m) al (addrL [roots[i]]) := by
      rw [take_succ_get hi, addrL_app, layL_two, ← h2]
    rw [reach_begin_l14_s, lt_t (by omega), ct, getE_n hi, bs]
    unfold reach_begin_c1_O
    rw [ha, bs]
    cases hb : hasB roots[i]
    · simp only [cf, bs]
      rw [r64 (by omega) (by omega)]
      refine go (al, mt) ⟨h1, ?_⟩
      rw [hnext]; simp [addrL, hb, layL]
    · simp only [ct]
      obtain ⟨⟨m', al', mt', d'⟩, e0, e1, e2, h5, h6⟩ := lay_fun N hN hs 0 [roots[i].N] (by simp) (by intro x hx; rw [List.mem_singleton] at hx; subst hx; exact hx64) h1
      simp only at e1 e2 h5 h6
      subst e1 e2
      have e0' : reach_row_lay_O N ⟨⟨m'.Young, m'.Old⟩, al, mt, 0⟩ [roots[i].N] = some ⟨m', al', mt', 0⟩ := e0
      rw [e0', bs, bs]
      dsimp only
      rw [r64 (by omega) (by omega)]
      refine go (al', mt') ⟨h5, ?_⟩
      show al' = _
      rw [hnext, h6]; simp [addrL, hb]
  · rintro k ⟨al, mt⟩ ⟨h1, h2⟩
    show Sat (reach_begin_l14 N roots (k + 1) _ m.Young m.Old al mt 0) _
    rw [reach_begin_l14_s, lt_f (by omega), cf]
    unfold reach_begin_j8
    refine Sat.bind (through_fun N hN hs hw h1 0 (Nat.zero_le _)) ?_
    rintro r ⟨e1, e2, h5, h6⟩
    simp only [List.take_length] at h2
    exact sat_some ⟨e1, e2, h5, by rw [← h2]; exact h6⟩
theorem opens_ok (N : Nat) {m : DMemory} {roots : List DValue} (hs : Small m roots) (hw : W64 m) (a : Int) (l : List Int) : (opensL N (atM m a) l).length ≤ 2000 ∧ ∀ x ∈ opensL N (atM m a) l, in64 x := by
  have h1 := hs.at_ a
  have h2 := opensL_len N (atM m a) l
  refine ⟨by omega, fun x hx => ?_⟩
  obtain ⟨v, h3, rfl⟩ := opensL_mem hx
  exact hw.at_ a v h3
theorem pass_fun (N : Nat) (hN : 5000 < N) {m : DMemory} {roots : List DValue} (hs : Small m roots) (hw : W64 m) {all : List Int} {met : List (Int × Unit)} (ht : Tr m all met) (d : Int) :
    Sat (reach_row_pass_O N ⟨m, all, met, d⟩) fun r => r.2.m_ = m ∧ r.2.done_ = d ∧ Tr m r.2.all_ r.2.met_ ∧ r.1 = decide ((all.length : Int) < (r.2.all_.length : Int)) ∧ r.2.all_ = passL (grM N m) all all := by
  have hlen := ht.len hs
  unfold reach_row_pass_O
  refine loop_inv (fun k i (s : List Int × List (Int × Unit)) => reach_row_pass_l13 N ⟨m, all, met, d⟩ k (i : Int) m.Young m.Old s.1 s.2 d) all.length (fun i s => Tr m s.1 s.2 ∧ (∃ t, s.1 = all ++ t) ∧ s.1 = passL (grM N m) all (all.take i)) _ ?_ ?_ N 0 (all, met) (by omega) (by omega) ⟨ht, ⟨[], by simp⟩, rfl⟩
  · rintro k i ⟨al, mt⟩ hi ⟨h1, ⟨t, h2⟩, h3⟩ go
    show Sat (reach_row_pass_l13 N ⟨m, all, met, d⟩ (k + 1) (i : Int) m.Young m.Old al mt d) _
    simp only at h1 h2 h3
    have hlen1 := h1.len hs
    have htk : List.take all.length al = all := by rw [h2, List.take_left']; rfl
    have hx := List.getElem_mem hi
    have hsm := hs.at_ all[i]
    have hat : reach_At_O N ⟨m.Young, m.Old⟩ all[i] = some (atM m all[i]) := at_prog N hs all[i] (ht.in64 hs hx)
    have hnext : passL (grM N m) all (all.take (i + 1)) = layL (hasM m) al (opensL N (atM m all[i]) al) := by
      rw [take_succ_get hi, passL_two, ← h3]; rfl
    rw [reach_row_pass_l13_s]
    simp only [List.take_length]
    rw [lt_t (by omega), ct, htk, getE_n hi, bs, hat, bs]
    unfold reach_row_pass_j21
    by_cases h8 : (atM m all[i]).Kind = 8
    · rw [eq_t h8, ct, opens_prog N hN al (by omega) _ (by omega) (by omega), bs]
      obtain ⟨hl1, hl2⟩ := opens_ok N hs hw all[i] al
      obtain ⟨⟨m', al', mt', d'⟩, e0, e1, e2, h5, h6⟩ := lay_fun N hN hs d _ hl1 hl2 h1
      simp only at e1 e2 h5 h6
      subst e1 e2
      have e0' : reach_row_lay_O N ⟨⟨m'.Young, m'.Old⟩, al, mt, d'⟩ (opensL N (atM m' all[i]) al) = some ⟨m', al', mt', d'⟩ := e0
      rw [e0', bs]
      dsimp only
      rw [r64 (by omega) (by omega)]
      obtain ⟨t', e', -⟩ := layL_app (hasM m') al (opensL N (atM m' all[i]) al)
      exact go (al', mt') ⟨h5, ⟨t ++ t', by show al' = _; rw [h6, e', h2, List.append_assoc]⟩, by show al' = _; rw [hnext, h6]⟩
    · rw [eq_f h8, cf, r64 (by omega) (by omega)]
      refine go (al, mt) ⟨h1, ⟨t, h2⟩, ?_⟩
      have h0 : opensL N (atM m all[i]) al = [] := by
        unfold opensL isWM
        rw [eq_f h8]; rfl
      show al = _
      rw [hnext, h0]; rfl
  · rintro k ⟨al, mt⟩ ⟨h1, ⟨t, h2⟩, h3⟩
    show Sat (reach_row_pass_l13 N ⟨m, all, met, d⟩ (k + 1) _ m.Young m.Old al mt d) _
    rw [reach_row_pass_l13_s]
    simp only [List.take_length] at h3 ⊢
    rw [lt_f (by omega), cf]
    exact sat_some ⟨rfl, rfl, h1, rfl, h3⟩
/-- Order, Live and Strong, as the relation has them -/
theorem order_fun (N : Nat) (hN : 5000 < N) {m : DMemory} {roots : List DValue} (hs : Small m roots) (hw : W64 m) (hr : ∀ v ∈ roots, in64 v.N) :
    ∃ b all, IsOrder (grM N m) (addrL roots) b.all_ all ∧ all.length ≤ 1200 ∧ b.all_.length ≤ 1200 ∧ reach_begin_O N m roots = some b ∧ reach_Order_O N m roots = some all := by
  obtain ⟨⟨m', al0, mt0, d0⟩, e0, e1, e2, h1, h2⟩ := begin_fun N hN hs hw hr
  simp only at e1 e2 h1 h2
  subst e1 e2
  have hlen0 := h1.len hs
  have key : Sat (reach_Order_O N m' roots) fun all => Ord (grM N m') al0 all ∧ all.length ≤ 1200 := by
    unfold reach_Order_O
    rw [e0, bs]
    refine loop_dec (fun f (s : List Int × List (Int × Unit)) => reach_Order_l17 N f m'.Young m'.Old s.1 s.2 (s.1.length : Int)) (fun s => 1300 - s.1.length) (fun s => Tr m' s.1 s.2 ∧ ∀ r, Ord (grM N m') s.1 r → Ord (grM N m') al0 r) _ ?_ N (al0, mt0) (by show 1300 - al0.length < N; omega) ⟨h1, fun _ h => h⟩
    rintro f ⟨al, mt⟩ ⟨h4, h5⟩ go
    show Sat (reach_Order_l17 N (f + 1) m'.Young m'.Old al mt (al.length : Int)) _
    simp only at h4 h5
    have hlen := h4.len hs
    rw [reach_Order_l17_s]
    obtain ⟨⟨b, m2, al2, mt2, d2⟩, g0, g1, g2, g3, g5, g6⟩ := pass_fun N hN hs hw h4 (al.length : Int)
    simp only at g1 g2 g3 g5 g6
    subst g1 g2
    have hlen2 := g3.len hs
    have g0' : reach_row_pass_O N ⟨⟨m2.Young, m2.Old⟩, al, mt, (al.length : Int)⟩ = some (b, ⟨m2, al2, mt2, (al.length : Int)⟩) := g0
    obtain ⟨t2, ht2⟩ := passL_app (grM N m2) al al
    rw [g0', bs]
    dsimp only
    rw [g5]
    refine sat_dec (fun hlt => ?_) fun hge => ?_
    · refine Sat.bind (through_fun N hN hs hw g3 al.length (by omega)) ?_
      rintro ⟨m3, al3, mt3, d3⟩ ⟨k1, k2, k3, k4⟩
      simp only at k1 k2 k3 k4
      subst k1 k2
      have hlen3 := k3.len hs
      refine go (al3, mt3) ?_ ⟨k3, fun r h => h5 r (.step ?_ (by rw [← g6]; exact k4) h)⟩
      · show 1300 - al3.length < 1300 - al.length
        obtain ⟨t3, e3⟩ := k4.app
        have : al2.length ≤ al3.length := by rw [e3, List.length_append]; omega
        omega
      · rw [← g6]; intro e; rw [e] at hlt; omega
    · have e : al2 = al := by
        rw [ht2] at g6
        have h0 : t2 = [] := List.eq_nil_of_length_eq_zero (by rw [g6, List.length_append] at hge; omega)
        rw [g6, h0, List.append_nil]
      subst e
      unfold reach_Order_j11
      exact sat_some ⟨h5 _ (.done g6.symm), by omega⟩
  obtain ⟨all, k1, k2, k3⟩ := key
  exact ⟨⟨m', al0, mt0, (al0.length : Int)⟩, all, ⟨h2, k2⟩, k3, hlen0, e0, k1⟩
end Go.Proofs.Ytmbaennilhdieaa
