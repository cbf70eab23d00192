/- Plain: the traversal. -/
import Derived.Test.YtmbaennilhdieaaRq5
namespace Go.Proofs.Ytmbaennilhdieaa
open Go.RowKit

theorem nodup_le : ∀ (b : Nat) {l : List Int}, l.Nodup → (∀ x ∈ l, 1 ≤ x ∧ x ≤ (b : Int)) → l.length ≤ b
  | 0, l, _, h => by
    cases l with
    | nil => exact Nat.le_refl _
    | cons x l => have := h x (by simp); omega
  | b + 1, l, hn, h => by
    have h1 := nodup_le b (hn.erase ((b : Int) + 1)) fun x hx => by
      obtain ⟨h2, h3⟩ := hn.mem_erase_iff.1 hx
      have := h x h3
      omega
    have h2 := List.length_erase (a := (b : Int) + 1) (l := l)
    split at h2 <;> omega
theorem lk_mem (kv : List (Int × Unit)) (a : Int) : (lk kv a).isSome = decide (a ∈ kv.map (·.1)) := by
  unfold lk
  rw [Bool.eq_iff_iff]
  simp [List.find?_isSome, List.mem_map]
/-- the numbers of all values fit into an int -/
def W64 (m : DMemory) : Prop := ∀ c ∈ m.Young ++ m.Old, ∀ v ∈ c.Slots ++ c.More, in64 v.N
theorem W64.at_ {m : DMemory} (h : W64 m) (a : Int) : ∀ v ∈ (atM m a).Slots ++ (atM m a).More, in64 v.N := by
  unfold atM
  cases hc : cellAt m a with
  | none => intro v hv; simp [zeroC] at hv
  | some c => exact h c (cellAt_mem hc)
/-- what was discovered so far -/
structure Tr (m : DMemory) (all : List Int) (met : List (Int × Unit)) : Prop where
  nd : all.Nodup
  mem : ∀ x, x ∈ met.map (·.1) ↔ x ∈ all
  has : ∀ x ∈ all, hasM m x = true
theorem Tr.len {m : DMemory} {roots : List DValue} (hs : Small m roots) {all : List Int} {met : List (Int × Unit)} (h : Tr m all met) : all.length ≤ 1200 := nodup_le 1200 h.nd fun x hx => ⟨by have := hasM_pos (h.has x hx); omega, by have := hasM_le hs (h.has x hx); omega⟩
theorem Tr.in64 {m : DMemory} {roots : List DValue} (hs : Small m roots) {all : List Int} {met : List (Int × Unit)} (h : Tr m all met) {x : Int} (hx : x ∈ all) : in64 x := by
  have h1 := hasM_pos (h.has x hx)
  have h2 := hasM_le hs (h.has x hx)
  unfold Go.Proofs.Ytmbaennilhdieaa.in64; omega
theorem Tr.add {m : DMemory} {all : List Int} {met : List (Int × Unit)} (h : Tr m all met) {x : Int} (hx : x ∉ all) (hh : hasM m x = true) : Tr m (all ++ [x]) (upL met x ()) := ⟨List.nodup_append.2 ⟨h.nd, by simp, fun a ha b hb e => by rw [List.mem_singleton] at hb; subst hb; subst e; exact hx ha⟩, fun y => by
  rw [upL_mem, List.mem_append, List.mem_singleton, h.mem y]; exact Or.comm, fun y hy => by
  rcases List.mem_append.1 hy with hy | hy
  · exact h.has y hy
  · rw [List.mem_singleton] at hy; subst hy; exact hh⟩
theorem lay_spec (N : Nat) (hN : 5000 < N) {m : DMemory} {roots : List DValue} (hs : Small m roots) (d : Int) (l : List Int) (hl : l.length ≤ 2000) (h64 : ∀ x ∈ l, in64 x) {all : List Int} {met : List (Int × Unit)} (ht : Tr m all met) :
    Sat (reach_row_lay_O N ⟨m, all, met, d⟩ l) fun r => r.m_ = m ∧ r.done_ = d ∧ Tr m r.all_ r.met_ ∧ (∃ t, r.all_ = all ++ t) ∧ ∀ x ∈ l, hasM m x = true → x ∈ r.all_ := by
  unfold reach_row_lay_O
  refine loop_inv (fun k i (s : List Int × List (Int × Unit)) => reach_row_lay_l7 N l ⟨m, all, met, d⟩ k (i : Int) s.1 s.2) l.length (fun i s => Tr m s.1 s.2 ∧ (∃ t, s.1 = all ++ t) ∧ ∀ x ∈ l.take i, hasM m x = true → x ∈ s.1) _ ?_ ?_ N 0 (all, met) (by omega) (by omega) ⟨ht, ⟨[], by simp⟩, by simp⟩
  · rintro k i ⟨al, mt⟩ hi ⟨h1, ⟨t, h2⟩, h3⟩ go
    show Sat (reach_row_lay_l7 N l ⟨m, all, met, d⟩ (k + 1) i al mt) _
    simp only at h1 h2 h3
    have hx64 := h64 l[i] (List.getElem_mem _)
    rw [reach_row_lay_l7_s, lt_t (by omega), ct, getE_n hi, bs, lk_mem]
    unfold reach_row_lay_j12
    rw [r64 (a := (i : Int) + 1) (by omega) (by omega), r64 (a := (i : Int) + 1) (by omega) (by omega)]
    by_cases hm : l[i] ∈ al
    · rw [decide_eq_true ((h1.mem _).2 hm)]
      simp only [nt, cf, bs]
      refine go (al, mt) ⟨h1, ⟨t, h2⟩, fun x hx hh => ?_⟩
      rw [take_succ_get hi, List.mem_append, List.mem_singleton] at hx
      rcases hx with hx | rfl
      · exact h3 x hx hh
      · exact hm
    · rw [decide_eq_false (fun h => hm ((h1.mem _).1 h))]
      simp only [nf, ct, bs, has_prog N m _ hx64]
      cases hh : hasM m l[i]
      · simp only [cf]
        refine go (al, mt) ⟨h1, ⟨t, h2⟩, fun x hx hh2 => ?_⟩
        rw [take_succ_get hi, List.mem_append, List.mem_singleton] at hx
        rcases hx with hx | rfl
        · exact h3 x hx hh2
        · rw [hh] at hh2; cases hh2
      · simp only [ct]
        have hlen := h1.len hs
        rw [rF (by simp; omega)]
        refine go (al ++ [l[i]], upL mt l[i] ()) ⟨h1.add hm hh, ⟨t ++ [l[i]], by rw [h2, List.append_assoc]⟩, fun x hx hh2 => ?_⟩
        rw [take_succ_get hi, List.mem_append, List.mem_singleton] at hx
        rcases hx with hx | rfl
        · exact List.mem_append_left _ (h3 x hx hh2)
        · exact List.mem_append_right _ (by simp)
  · rintro k ⟨al, mt⟩ ⟨h1, h2, h3⟩
    show Sat (reach_row_lay_l7 N l ⟨m, all, met, d⟩ (k + 1) _ al mt) _
    rw [reach_row_lay_l7_s, lt_f (by omega), cf]
    exact sat_some ⟨rfl, rfl, h1, h2, fun x hx => h3 x (by rwa [List.take_length])⟩
/-- the first k discovered cells were visited -/
def Clo (m : DMemory) (all : List Int) (k : Nat) : Prop := ∀ (i : Nat) (a x : Int), i < k → all[i]? = some a → x ∈ leadsL (atM m a) → hasM m x = true → x ∈ all
theorem Clo.app {m : DMemory} {all t : List Int} {k : Nat} (hk : k ≤ all.length) (h : Clo m all k) : Clo m (all ++ t) k := fun i a x hi ha hx hh => by
  rw [List.getElem?_append_left (by omega)] at ha
  exact List.mem_append_left _ (h i a x hi ha hx hh)
theorem leads_ok {m : DMemory} {roots : List DValue} (hs : Small m roots) (hw : W64 m) (a : Int) : (leadsL (atM m a)).length ≤ 2000 ∧ ∀ x ∈ leadsL (atM m a), in64 x := by
  have h1 := hs.at_ a
  have h2 := leadsL_len (atM m a)
  refine ⟨by omega, fun x hx => ?_⟩
  obtain ⟨v, h3, rfl⟩ := leadsL_mem hx
  exact hw.at_ a v h3
theorem through_spec (N : Nat) (hN : 5000 < N) {m : DMemory} {roots : List DValue} (hs : Small m roots) (hw : W64 m) {all : List Int} {met : List (Int × Unit)} (ht : Tr m all met) (k : Nat) (hk : k ≤ all.length) (hc : Clo m all k) :
    Sat (reach_row_through_O N ⟨m, all, met, (k : Int)⟩) fun r => r.m_ = m ∧ r.done_ = (r.all_.length : Int) ∧ Tr m r.all_ r.met_ ∧ (∃ t, r.all_ = all ++ t) ∧ Clo m r.all_ r.all_.length := by
  unfold reach_row_through_O
  refine loop_dec (fun f (s : List Int × List (Int × Unit) × Nat) => reach_row_through_l6 N f m.Young m.Old s.1 s.2.1 (s.2.2 : Int)) (fun s => 1300 - s.2.2) (fun s => Tr m s.1 s.2.1 ∧ (∃ t, s.1 = all ++ t) ∧ s.2.2 ≤ s.1.length ∧ Clo m s.1 s.2.2) _ ?_ N (all, met, k) (by show 1300 - k < N; omega) ⟨ht, ⟨[], by simp⟩, hk, hc⟩
  rintro f ⟨al, mt, j⟩ ⟨h1, ⟨t, h2⟩, h3, h4⟩ go
  show Sat (reach_row_through_l6 N (f + 1) m.Young m.Old al mt (j : Int)) _
  simp only at h1 h2 h3 h4
  have hlen := h1.len hs
  rw [reach_row_through_l6_s]
  by_cases hj : j < al.length
  · have hx := List.getElem_mem hj
    have hat := at_prog N hs al[j] (h1.in64 hs hx)
    have hsm := hs.at_ al[j]
    obtain ⟨hl1, hl2⟩ := leads_ok hs hw al[j]
    rw [lt_t (by omega), ct, getE_n hj, bs]
    have hat' : reach_At_O N ⟨m.Young, m.Old⟩ al[j] = some (atM m al[j]) := hat
    rw [hat', bs, leads_prog N (by omega) _ (by omega) (by omega), bs]
    refine Sat.bind (lay_spec N hN hs (j : Int) _ hl1 hl2 h1) ?_
    rintro ⟨m', al', mt', d'⟩ ⟨e1, e2, h5, ⟨t', h6⟩, h7⟩
    simp only at e1 e2 h5 h6 h7
    subst e1 e2
    have hlen' := h5.len hs
    dsimp only
    rw [r64 (by omega) (by omega)]
    have hgo := go (al', mt', j + 1) (by show 1300 - (j + 1) < 1300 - j; omega) ⟨h5, ⟨t ++ t', by rw [h6, h2, List.append_assoc]⟩, by show j + 1 ≤ al'.length; rw [h6, List.length_append]; omega, fun i a x hi ha hx hh => by
      have hi : i < j + 1 := hi
      rw [h6] at ha
      rcases Nat.lt_or_ge i j with hij | hij
      · rw [List.getElem?_append_left (by omega)] at ha
        rw [h6]; exact List.mem_append_left _ (h4 i a x hij ha hx hh)
      · have : i = j := by omega
        subst this
        rw [List.getElem?_append_left hj, List.getElem?_eq_getElem hj, Option.some.injEq] at ha
        subst ha
        exact h7 x hx hh⟩
    simpa using hgo
  · have : j = al.length := by omega
    subst this
    rw [lt_f (by omega), cf]
    exact sat_some ⟨rfl, rfl, h1, ⟨t, h2⟩, h4⟩
end Go.Proofs.Ytmbaennilhdieaa
