/- Merged texts: part 9. No conditions of their own. -/
import Derived.Test.YtmbaennilhdieaaGreatG8
import Derived.Test.YtmbaennilhdieaaGreatG3
namespace Go.Proofs.YtmbaennilhdieaaGreat
open Go.RowKit
def Iv : DMemory := ⟨[⟨11, 0, 0, 0, [], [⟨7, 2, ⟨#[]⟩⟩]⟩, ⟨11, 0, 0, 0, [], []⟩], [⟨11, 0, 0, 0, [], []⟩, ⟨11, 0, 0, 0, [], []⟩]⟩
def IF : DMemory := ⟨[], [⟨10, 0, 0, 0, [⟨1, 0, ⟨#[]⟩⟩], [⟨7, 4, ⟨#[]⟩⟩, ⟨7, 6, ⟨#[]⟩⟩, ⟨7, 8, ⟨#[]⟩⟩, ⟨0, 0, ⟨#[]⟩⟩, ⟨3, 7, ⟨#[]⟩⟩]⟩, ⟨11, 0, 0, 0, [], []⟩, ⟨11, 0, 0, 0, [], []⟩, ⟨11, 0, 0, 0, [], []⟩]⟩
theorem oP : co 6000 Iv [⟨7, 1, ⟨#[]⟩⟩] = some [1, 2] := by kernel_rfl
theorem oF : co 6000 IF [⟨7, 2, ⟨#[]⟩⟩] = some [2, 4, 8] := by kernel_rfl
theorem lP : fb 6000 Iv [⟨7, 1, ⟨#[]⟩⟩] = some [1, 2] := zy oP (by decide) (sG (by decide) (by decide) (by intro x; simp))
theorem lF : fb 6000 IF [⟨7, 2, ⟨#[]⟩⟩] = some [2, 4, 8] := zy oF (by decide) (sG (by decide) (by decide) (by intro x; simp))
theorem pP : ik 6000 Iv [⟨7, 1, ⟨#[]⟩⟩] = some ([2, 1], [2, 4]) := by
 unfold ik
 rw [lP, bs]
 kernel_rfl
theorem Aj {a : Int} (h : 0 < a) : a.tmod 2 = 0 ∨ a.tmod 2 = 1 := by
 rw [rm (by omega)]; omega
theorem BY {live : List Int} (hp : ∀ a ∈ live, 0 < a) (a : Int) : a ∈ jF live ↔ a ∈ live := by
 unfold jF pi xK
 rw [List.mem_append, List.mem_filter, List.mem_filter, decide_eq_true_eq, decide_eq_true_eq]
 constructor
 ·rintro (h | h) <;> exact h.1
 intro h
 rcases Aj (hp a h) with h2 | h2
 ·exact .inl ⟨h, h2⟩
 exact .inr ⟨h, h2⟩
theorem wL : ∀ {live : List Int}, (∀ a ∈ live, 0 < a) → (jF live).length = live.length
 | [], _ => rfl
 | a :: l, hp => by
  have ih := wL (live := l) fun b hb => hp b (by simp [hb])
  unfold jF at ih ⊢
  rw [List.length_append] at ih ⊢
  rcases Aj (hp a (by simp)) with h | h
  ·have e1 : pi a = true := decide_eq_true h
   have e2 : xK a = false := decide_eq_false (by omega)
   simp only [List.filter_cons, e1, e2, if_true, Bool.false_eq_true, if_false, List.length_cons]; omega
  have e1 : pi a = false := decide_eq_false (by omega)
  have e2 : xK a = true := decide_eq_true h
  simp only [List.filter_cons, e1, e2, if_true, Bool.false_eq_true, if_false, List.length_cons]; omega
theorem DO {live : List Int} (h : live.Pairwise (· < ·)) : (jF live).Pairwise fun a b => ¬ (a.tmod 2 = 1 ∧ b.tmod 2 = 0) ∧ (a.tmod 2 = b.tmod 2 → a < b) := by
 have hev : ∀ a ∈ live.filter pi, a.tmod 2 = 0 := fun a ha => of_decide_eq_true (List.mem_filter.1 ha).2
 have hod : ∀ a ∈ live.filter xK, a.tmod 2 = 1 := fun a ha => of_decide_eq_true (List.mem_filter.1 ha).2
 unfold jF
 refine List.pairwise_append.2 ⟨(h.filter _).imp_of_mem fun {a b} ha hb hlt => ⟨fun hh => ?_, fun _ => hlt⟩, (h.filter _).imp_of_mem fun {a b} ha hb hlt => ⟨fun hh => ?_, fun _ => hlt⟩, fun a ha b hb => ⟨fun hh => ?_, fun hh => ?_⟩⟩
 ·have := hev a ha; omega
 ·have := hod b hb; omega
 ·have := hev a ha; omega
 have := hev a ha; have := hod b hb; omega
theorem cP : bL 6000 Iv [⟨7, 1, ⟨#[]⟩⟩] = some (⟨[], [⟨11, 0, 0, 0, [], []⟩, ⟨11, 0, 0, 0, [], [⟨7, 2, ⟨#[]⟩⟩]⟩]⟩, [⟨7, 4, ⟨#[]⟩⟩], [], 0) := by
 unfold bL
 rw [lP]
 kernel_rfl
theorem cF : bL 6000 IF [⟨7, 2, ⟨#[]⟩⟩] = some (⟨[], [⟨10, 0, 0, 0, [⟨1, 0, ⟨#[]⟩⟩], [⟨7, 4, ⟨#[]⟩⟩]⟩, ⟨11, 0, 0, 0, [], []⟩, ⟨11, 0, 0, 0, [], []⟩]⟩, [⟨7, 2, ⟨#[]⟩⟩], [⟨7, 4, ⟨#[]⟩⟩, ⟨7, 6, ⟨#[]⟩⟩, ⟨3, 7, ⟨#[]⟩⟩], 0) := by
 unfold bL
 rw [lF]
 kernel_rfl
theorem qe : md 6000 = some true := by
 have h1 : ik 6000 (⟨([⟨11, 0, 0, 0, [], [⟨7, 2, ⟨#[]⟩⟩]⟩, ⟨11, 0, 0, 0, [], []⟩] : List DCell), ([⟨11, 0, 0, 0, [], []⟩, ⟨11, 0, 0, 0, [], []⟩] : List DCell)⟩ : DMemory) ([⟨7, 1, ⟨#[]⟩⟩] : List DValue) = some ([2, 1], [2, 4]) := pP
 have h2 : bL 6000 (⟨([⟨11, 0, 0, 0, [], [⟨7, 2, ⟨#[]⟩⟩]⟩, ⟨11, 0, 0, 0, [], []⟩] : List DCell), ([⟨11, 0, 0, 0, [], []⟩, ⟨11, 0, 0, 0, [], []⟩] : List DCell)⟩ : DMemory) ([⟨7, 1, ⟨#[]⟩⟩] : List DValue) = _ := cP
 have h3 : bL 6000 (⟨[], ([⟨10, 0, 0, 0, ([(⟨1, 0, ⟨#[]⟩⟩ : DValue)] : List DValue), ([⟨7, 4, ⟨#[]⟩⟩, ⟨7, 6, ⟨#[]⟩⟩, ⟨7, 8, ⟨#[]⟩⟩, (⟨0, 0, ⟨#[]⟩⟩ : DValue), (⟨3, 7, ⟨#[]⟩⟩ : DValue)] : List DValue)⟩, ⟨11, 0, 0, 0, [], []⟩, ⟨11, 0, 0, 0, [], []⟩, ⟨11, 0, 0, 0, [], []⟩] : List DCell)⟩ : DMemory) ([⟨7, 2, ⟨#[]⟩⟩] : List DValue) = _ := cF
 unfold md cg dL
 simp only [bs]
 rw [h1, bs, h2, bs, h3, bs]
 clear h1 h2 h3
 refine Eq.trans ?_ (Eq.refl (some true))
 kernel_rfl
theorem jX {α : Type} {p : α → Bool} {l : List α} (h : l.all p = true) {x : α} (hx : x ∈ l) : p x = true := List.all_eq_true.1 h x hx
theorem yV {N : Nat} {m : DMemory} {roots : List DValue} (h : kC N m roots = 0) : (∀ c ∈ m.Young ++ m.Old, kf N c = true) ∧ (∀ c ∈ m.Young ++ m.Old, ∀ x ∈ di c, aT m x = true) ∧ ∀ x ∈ bJ roots, aT m x = true := by
 unfold kC at h
 cases h1 : (m.Young ++ m.Old).all (kf N) with
 | false => rw [h1] at h; cases h
 | true =>
  rw [h1] at h
  cases h2 : dl m ((m.Young ++ m.Old).flatMap di ++ bJ roots) with
  | false => rw [h2] at h; cases h
  | true =>
   unfold dl at h2
   refine ⟨fun c hc => jX h1 hc, fun c hc x hx => jX h2 (List.mem_append_left _ (List.mem_flatMap.2 ⟨c, hc, hx⟩)), fun x hx => jX h2 (List.mem_append_right _ hx)⟩
structure Live (N : Nat) (m : DMemory) (roots : List DValue) (live f : List Int) : Prop where
 ord : ∃ b all, IsOrder (uP N m) (bJ roots) b all ∧ live = fI all ∧ f = jF live
 prog : fb N m roots = some live
 ref : wv N m roots = some live
 mem : ∀ a, a ∈ f ↔ a ∈ live
 len : f.length = live.length
 small : live.length ≤ 1200
 nd : f.Nodup
 asc : live.Pairwise (· < ·)
 has : ∀ a ∈ live, aT m a = true
theorem DP {live : List Int} (h : live.Pairwise (· < ·)) : (jF live).Nodup := by
 rw [List.nodup_iff_pairwise_ne]
 refine (DO h).imp fun {a b} hab e => ?_
 have := hab.2 (by rw [e])
 omega
theorem CU (N : Nat) (hN : 5000 < N) {m : DMemory} {roots : List DValue} (hs : Small m roots) (hw : W64 m) (hr : ∀ v ∈ roots, in64 v.N) : ∃ live f, Live N m roots live f := by
 obtain ⟨bg, all, ho, hlen, -, -, o0⟩ := lW N hN hs hw hr
 obtain ⟨b', all', ho', r0, -⟩ := wc N hN hs hw hr
 obtain ⟨-, e2⟩ := ho.det ho'
 subst e2
 have hll : (fI all).length = all.length := qA all
 have hmem := qz all
 have hasc := xW ho.nodup.2
 have hhas : ∀ a ∈ fI all, aT m a = true := fun a ha => ho.has.2 a ((hmem a).1 ha)
 have hpos : ∀ a ∈ fI all, 0 < a := fun a ha => mG (hhas a ha)
 refine ⟨fI all, jF (fI all), ⟨⟨_, all, ho, rfl, rfl⟩, zy o0 (by omega) rfl, ?_, BY hpos, wL hpos, by omega, DP hasc, hasc, hhas⟩⟩
 unfold wv
 rw [r0, bs, BG N hN all (by omega) ho.nodup.2, bs]
theorem Live.fhas {N : Nat} {m : DMemory} {roots : List DValue} {live f : List Int} (h : Live N m roots live f) {a : Int} (ha : a ∈ f) : aT m a = true := h.has a ((h.mem a).1 ha)
theorem EB {N : Nat} {m : DMemory} {roots : List DValue} {live f : List Int} (h : Live N m roots live f) : (f.flatMap fun a => gv live (bI m a)).length + wt (f.map fun a => eM (lT f) f (iP N live (bI m a))) ≤ wt m.Young + wt m.Old := by
 have h1 := ED h.nd fun a ha => h.fhas ha
 rw [uR, pw, kW, ← Am]
 refine Nat.le_trans (vu fun a ha => ?_) h1
 have := nD N live (bI m a)
 unfold wC eM
 simp only [List.length_map]
 omega
theorem tU {N : Nat} {m : DMemory} {roots : List DValue} {live f : List Int} (h : Live N m roots live f) (n : Nat) : ((f.take n).flatMap fun a => gv live (bI m a)).length ≤ wt m.Young + wt m.Old := by
 have h1 := EB h
 have h2 : (f.flatMap fun a => gv live (bI m a)) = ((f.take n).flatMap fun a => gv live (bI m a)) ++ ((f.drop n).flatMap fun a => gv live (bI m a)) := by rw [← List.flatMap_append, List.take_append_drop]
 rw [h2, List.length_append] at h1
 omega
def Fz (N : Nat) (m : DMemory) (roots : List DValue) (live f : List Int) : DMemory × List DValue × List DValue × Int :=
 bif decide (kC N m roots = 0) then ((C4 N m roots live f).next, (C4 N m roots live f).now, (C4 N m roots live f).gone, 0) else (⟨[], []⟩, [], [], kC N m roots)
theorem tG (N : Nat) (hN : 5000 < N) {m : DMemory} {roots : List DValue} (hs : Small m roots) (ht : Wtd m roots) (hw : W64 m) (hr : ∀ v ∈ roots, in64 v.N) {live f : List Int} (hl : Live N m roots live f) : bL N m roots = some (Fz N m roots live f) := by
 apply Sat.eq
 have hle := ht.le
 have hlen := hl.small
 have hfl := hl.len
 unfold bL Fz
 rw [Cq N hN hs ht hw hr, bs]
 by_cases h0 : ¬ kC N m roots = 0
 ·rw [eO h0]; exact aE rfl
 replace h0 : kC N m roots = 0 := by omega
 rw [lQ h0]
 simp only [nt, cf, ct]
 obtain ⟨c1, c2, c3⟩ := yV h0
 obtain ⟨_, _, _, hlv, hff⟩ := hl.ord
 rw [hl.prog, bs]
 unfold iZ
 rw [bs]
 refine Sat.bind (wB N (fun x st => fk N roots m live x st) live (by omega) hN (fun n s => RhoM s (f.take n)) ?_ [] ?_) ?_
 ·intro n a s ha h1
  rw [← hff] at ha
  have hn := (List.getElem?_eq_some_iff.1 ha).1
  rw [List.getElem?_eq_getElem hn, Option.some.injEq] at ha
  unfold fk
  simp only
  rw [r64 (by omega) (by omega), r64 (by omega) (by omega)]
  refine aE ⟨rfl, ?_⟩
  rw [← ha]
  exact h1.add hn hl.nd
 ·simpa using RhoM.nil
 rintro ⟨e, kv⟩ ⟨g1, g2⟩
 simp only at g1 g2
 subst g1
 rw [← hff, List.take_length] at g2
 unfold oz
 simp only [bs]
 have hG : ∀ a ∈ f, (iP N live (bI m a)).Slots.length ≤ 600 ∧ (iP N live (bI m a)).More.length ≤ 600 := fun a ha => by
  have h1 := nD N live (bI m a)
  have h2 := hs.at_ a
  omega
 refine Sat.bind (wB N (fun x st => fj N roots m live (none, kv) x st) live (by omega) hN (fun n s => s.1 = (f.take n).map (fun a => eM (lT f) f (iP N live (bI m a))) ∧ s.2 = (f.take n).flatMap fun a => gv live (bI m a)) ?_ ([], []) ⟨by simp, by simp⟩) ?_
 ·rintro n a ⟨p, q⟩ ha ⟨h1, h2⟩
  rw [← hff] at ha
  simp only at h1 h2
  have hn := (List.getElem?_eq_some_iff.1 ha).1
  have ham : a ∈ f := List.mem_of_getElem? ha
  rw [List.getElem?_eq_getElem hn, Option.some.injEq] at ha
  have hpl : p.length ≤ 2000 := by rw [h1, List.length_map, List.length_take]; omega
  have hql : q.length ≤ 2400 := by have := tU hl n; rw [h2]; omega
  have hq2 := tU hl (n + 1)
  have hat := tN N hs a (vz hs (hl.fhas ham))
  have hsm := hs.at_ a
  have hrt := c1 _ (z6 (hl.fhas ham))
  have hc := hG a ham
  rw [aP hn, ha, List.flatMap_append, ← h2, List.length_append] at hq2
  simp only [List.flatMap_cons, List.flatMap_nil, List.append_nil] at hq2
  -- the last part
  have last : ∀ q', q' = q ++ gv live (bI m a) → Sat (d7 N roots m p live (none, kv) q' (iP N live (bI m a)).Kind (iP N live (bI m a)).Shape (iP N live (bI m a)).Flags (iP N live (bI m a)).Age (iP N live (bI m a)).Slots (iP N live (bI m a)).More) fun r => r.1 = none ∧ r.2.1 = (f.take (n + 1)).map (fun a => eM (lT f) f (iP N live (bI m a))) ∧ r.2.2 = (f.take (n + 1)).flatMap fun a => gv live (bI m a) := by
   intro q' hq'
   unfold d7
   rw [oT N hN _ (by omega) kv f g2, bs, oT N hN _ (by omega) kv f g2, bs, rF (by simp; omega)]
   refine aE ⟨rfl, ?_, ?_⟩
   ·rw [aP hn, List.map_append, ← h1, ha]; rfl
   rw [aP hn, List.flatMap_append, ← h2, ha, hq']; simp
  unfold fj
  simp only
  rw [hat, bs]
  unfold iP gv at last
  unfold gv at hq2
  by_cases h8 : (bI m a).Kind = 8
  ·have hwm : gB N (bI m a) = true := by unfold gB; rw [decide_eq_true h8]; exact hrt
   rw [lQ h8, ct, sf N hN live (by omega) _ hsm.1 hsm.2, bs, hwm, ct]
   rw [decide_eq_true h8, decide_eq_false (p := (bI m a).Kind = 10) (by omega)] at last
   simp only [cond_true, cond_false, List.append_nil] at last
   exact last q rfl
  by_cases h10 : (bI m a).Kind = 10
  ·have hwm : lf N (bI m a) = true := by unfold lf; rw [decide_eq_true h10]; exact hrt
   rw [eO h8, cf, lQ h10, ct, rM N hN live (by omega) _ hsm.1 hsm.2, bs, hwm, ct]
   rw [decide_eq_true h10] at hq2
   rw [decide_eq_false h8, decide_eq_true h10] at last
   simp only [cond_true, cond_false] at last hq2
   rw [rF (by omega)]
   exact last _ rfl
  rw [eO h8, cf, eO h10, cf]
  rw [decide_eq_false h8, decide_eq_false h10] at last
  simp only [cond_true, cond_false, List.append_nil] at last
  exact last q rfl
 rintro ⟨e, p, q⟩ ⟨g1, g3, g4⟩
 simp only at g1 g3 g4
 subst g1
 rw [← hff, List.take_length] at g3 g4
 have hrl := hs.roots
 have hql : q.length ≤ 2400 := by have := tU hl f.length; rw [List.take_length] at this; rw [g4]; omega
 simp only
 rw [oT N hN _ (by omega) kv f g2, bs, oT N hN _ (by omega) kv f g2, bs]
 refine aE ?_
 unfold C4
 rw [g3, g4]
theorem nR {f : List Int} {a : Int} (h : a ∈ f) : f.idxOf a < f.length := List.idxOf_lt_length_iff.2 h
theorem kO {f : List Int} {a : Int} (h : a ∈ f) : f[f.idxOf a]'(nR h) = a := List.getElem_idxOf (nR h)
theorem CN {f : List Int} {a b : Int} (ha : a ∈ f) (hb : b ∈ f) (h : lT f a = lT f b) : a = b := by
 unfold lT at h
 have e : f.idxOf a = f.idxOf b := by omega
 have h1 := kO ha
 have h2 := kO hb
 rw [← h1, ← h2]
 congr 1
theorem oK (f : List Int) : Ren (lT f) f := ⟨fun _ _ h1 h2 h3 => CN h1 h2 h3, fun a _ => by unfold lT; omega⟩
theorem yx {ρ : Int → Int} {f : List Int} (hρ : Ren ρ f) {a : Int} (ha : a ∈ f) : ∀ {A : List Int}, (∀ x ∈ A, x ∈ f) → (A.map ρ).idxOf (ρ a) = A.idxOf a
 | [], _ => rfl
 | x :: A, h => by
  rw [List.map_cons, List.idxOf_cons, List.idxOf_cons, yx hρ ha fun y hy => h y (by simp [hy])]
  by_cases e : x = a
  ·rw [beq_iff_eq.2 e, beq_iff_eq.2 (by rw [e])]
  rw [beq_eq_false_iff_ne.2 e, beq_eq_false_iff_ne.2 fun h' => e (hρ.inj _ _ (h x (by simp)) ha h')]
theorem zl {ρ : Int → Int} {f : List Int} (hρ : Ren ρ f) {A : List Int} (h : ∀ x ∈ A, x ∈ f) {a : Int} (ha : a ∈ f) : ρ a ∈ A.map ρ ↔ a ∈ A := zx (S := (· ∈ f)) hρ.inj h ha
theorem qK (ρ : Int → Int) (f : List Int) (v : DValue) : bj (cu ρ f v) = bj v := yy (by unfold cu; cases bj v && decide (v.N ∈ f) <;> rfl)
theorem pU {ρ : Int → Int} {f : List Int} {v : DValue} (h1 : bj v = true) (h2 : v.N ∈ f) : cu ρ f v = ⟨v.Kind, ρ v.N, v.S⟩ := by
 unfold cu; rw [h1, decide_eq_true h2]; rfl
theorem Gk {ρ : Int → Int} {f : List Int} {v : DValue} (h1 : bj v = false) : cu ρ f v = v := by
 unfold cu; rw [h1]; rfl
theorem sX {ρ : Int → Int} {f : List Int} (F : Nat → DValue → Bool) (hF : ∀ i v, F i (cu ρ f v) = F i v) (hB : ∀ i v, F i v = true → bj v = true) : ∀ (i : Nat) (l : List DValue), (∀ x ∈ pick F i l, x ∈ f) → pick F i (l.map (cu ρ f)) = (pick F i l).map ρ
 | _, [], _ => rfl
 | i, v :: l, h => by
  rw [ew] at h
  rw [List.map_cons, ew, ew, hF, List.map_append, sX F hF hB (i + 1) l fun x hx => h x (List.mem_append_right _ hx)]
  cases hv : F i v with
  | false => rfl
  | true => rw [cond_true, cond_true, pU (hB i v hv) (h v.N (List.mem_append_left _ (by rw [hv]; simp)))]; rfl
theorem vv {F : Nat → DValue → Bool} : ∀ {i : Nat} {l : List DValue} {j : Nat} {v : DValue}, l[j]? = some v → F (i + j) v = true → v.N ∈ pick F i l
 | i, w :: l, 0, v, h, hF => by
  simp only [List.getElem?_cons_zero, Option.some.injEq] at h
  subst h
  rw [ew]
  rw [Nat.add_zero] at hF
  rw [hF]; simp
 | i, w :: l, j + 1, v, h, hF => by
  simp only [List.getElem?_cons_succ] at h
  rw [ew]
  exact List.mem_append_right _ (vv (i := i + 1) h (by rw [show i + 1 + j = i + (j + 1) by omega]; exact hF))
 | i, [], j, v, h, _ => by simp at h
def jp (f : List Int) (l : List DValue) : Prop := ∀ v ∈ l, bj v = true → v.N ∈ f
theorem Ao {f : List Int} {c : DCell} (h : ∀ x ∈ bn c, x ∈ f) : jp f c.Slots := fun v hv hb => by
 obtain ⟨j, hj, e⟩ := List.getElem_of_mem hv
 refine h _ (List.mem_append_left _ (vv (j := j) (by rw [List.getElem?_eq_getElem hj, e]) hb))
theorem vy {f : List Int} {c : DCell} (h : ∀ x ∈ bn c, x ∈ f) {j : Nat} {v : DValue} (hj : c.More[j]? = some v) (hw : gu c.Kind j = false) (hb : bj v = true) : v.N ∈ f :=
 h _ (List.mem_append_right _ (vv (j := j) hj (by rw [Nat.zero_add, hw, hb]; rfl)))
theorem Bw {k : Int} (h8 : k ≠ 8) (h10 : k ≠ 10) (i : Nat) : gu k i = false := by
 unfold gu; rw [eO h8, eO h10]; rfl
theorem yU {lv f : List Int} (hlv : ∀ x, x ∈ lv ↔ x ∈ f) : ∀ {l : List DValue}, ka l = true → (∀ x ∈ opens (fun x => decide (x ∈ lv)) l, x ∈ f) → jp f (cq (fun x => decide (x ∈ lv)) l)
 | [], _, _ => fun v hv => by simp [cq] at hv
 | [_], h, _ => by cases h
 | k :: v :: r, h, ho => by
  rw [gq] at h
  rw [Bool.and_eq_true] at h
  rw [fA] at ho
  have ih := yU hlv h.2 fun x hx => ho x (List.mem_append_right _ hx)
  intro w hw hb
  simp only [li] at hw
  rcases List.mem_append.1 hw with hw | hw
  ·cases hd : decide (k.N ∈ lv) with
   | false => rw [hd] at hw; cases hw
   | true =>
    rw [hd] at hw
    simp only [cond_true, List.mem_cons, List.not_mem_nil, or_false] at hw
    rcases hw with rfl | rfl
    ·exact (hlv _).1 (of_decide_eq_true hd)
    exact ho _ (List.mem_append_left _ (by rw [hb, hd]; simp))
  exact ih w hw hb
theorem CW {lv f : List Int} (hlv : ∀ x, x ∈ lv ↔ x ∈ f) : ∀ {l : List DValue}, iH l = true → (∀ j v, l[4 * j + 1]? = some v → bj v = true → v.N ∈ f) → jp f (d8 lv l)
 | [], _, _ => fun v hv => by simp [d8] at hv
 | [_], h, _ => by cases h
 | [_, _], h, _ => by cases h
 | [_, _, _], h, _ => by cases h
 | t :: a :: k :: s :: r, h, ho => by
  rw [jn] at h
  simp only [Bool.and_eq_true, decide_eq_true_eq] at h
  obtain ⟨⟨⟨h1, -⟩, h3, h4⟩, h5⟩ := h
  have ih := CW hlv h5 fun j v hj hb => ho (j + 1) v (by rw [show 4 * (j + 1) + 1 = 4 * j + 1 + 4 by omega]; simpa using hj) hb
  intro w hw hb
  simp only [oW] at hw
  rcases List.mem_append.1 hw with hw | hw
  ·cases hd : decide (t.N ∈ lv) with
   | false => rw [hd] at hw; cases hw
   | true =>
    rw [hd] at hw
    simp only [cond_true, List.mem_cons, List.not_mem_nil, or_false] at hw
    rcases hw with rfl | rfl | rfl | rfl
    ·exact (hlv _).1 (of_decide_eq_true hd)
    ·exact ho 0 w rfl hb
    ·cases hk : decide (k.Kind = 7) && !decide (k.N ∈ lv) with
     | true => rw [hk] at hb; cases hb
     | false =>
      rw [hk] at hb
      simp only [cond_false] at hb ⊢
      have hk7 : k.Kind = 7 := by
       unfold noneB at h3
       rw [Bool.or_eq_true, decide_eq_true_eq, decide_eq_true_eq] at h3
       rcases h3 with h3 | h3
       ·unfold bj at hb; rw [h3] at hb; cases hb
       exact h3
      rw [decide_eq_true hk7, Bool.true_and] at hk
      exact (hlv _).1 (by by_cases hm : k.N ∈ lv; exact hm; rw [decide_eq_false hm] at hk; cases hk)
    have : w.Kind = 3 := by
     unfold numB at h4
     rw [Bool.and_eq_true, decide_eq_true_eq] at h4; exact h4.1
    unfold bj at hb; rw [this] at hb; cases hb
  exact ih w hw hb
theorem yj {ρ : Int → Int} {row lv f : List Int} (hρ : Ren ρ f) (hsub : ∀ x ∈ row, x ∈ lv) (hlv : ∀ x, x ∈ lv ↔ x ∈ f) : ∀ {l : List DValue}, ka l = true → (∀ x ∈ opens (fun x => decide (x ∈ row)) l, x ∈ f) → opens (fun x => decide (x ∈ row.map ρ)) ((cq (fun x => decide (x ∈ lv)) l).map (cu ρ f)) = (opens (fun x => decide (x ∈ row)) l).map ρ
 | [], _, _ => rfl
 | [_], h, _ => by cases h
 | k :: v :: r, h, ho => by
  rw [gq] at h
  rw [Bool.and_eq_true, Bool.and_eq_true, decide_eq_true_eq] at h
  rw [fA] at ho
  have ih := yj hρ hsub hlv h.2 fun x hx => ho x (List.mem_append_right _ hx)
  have hk : bj k = true := by unfold bj; rw [h.1.1]; rfl
  have hrow : ∀ x ∈ row, x ∈ f := fun x hx => (hlv x).1 (hsub x hx)
  rw [fA, List.map_append, ← ih]
  simp only [li]
  by_cases hd : k.N ∈ lv
  ·have hf := (hlv _).1 hd
   have e1 : decide (ρ k.N ∈ row.map ρ) = decide (k.N ∈ row) := dv (zl hρ hrow hf)
   rw [decide_eq_true hd, cond_true]
   show opens _ (cu ρ f k :: cu ρ f v :: (cq (fun x => decide (x ∈ lv)) r).map (cu ρ f)) = _
   rw [fA, qK, pU hk hf]
   simp only [e1]
   congr 1
   cases hv : bj v && decide (k.N ∈ row) with
   | false => rfl
   | true =>
    rw [Bool.and_eq_true] at hv
    have hvf := ho v.N (List.mem_append_left _ (by rw [hv.1, hv.2]; simp))
    rw [cond_true, cond_true, pU hv.1 hvf]; rfl
  have hnr : k.N ∉ row := fun hx => hd (hsub _ hx)
  rw [decide_eq_false hd, cond_false, List.nil_append, decide_eq_false hnr, Bool.and_false]; rfl
theorem yT {ρ : Int → Int} {A lv f : List Int} (hρ : Ren ρ f) (hsub : ∀ x ∈ A, x ∈ lv) (hlv : ∀ x, x ∈ lv ↔ x ∈ f) : ∀ {l : List DValue}, ka l = true → cq (fun x => decide (x ∈ A.map ρ)) ((cq (fun x => decide (x ∈ lv)) l).map (cu ρ f)) = (cq (fun x => decide (x ∈ A)) l).map (cu ρ f)
 | [], _ => rfl
 | [_], h => by cases h
 | k :: v :: r, h => by
  rw [gq] at h
  rw [Bool.and_eq_true, Bool.and_eq_true, decide_eq_true_eq] at h
  have ih := yT hρ hsub hlv h.2
  have hk : bj k = true := by unfold bj; rw [h.1.1]; rfl
  have hA : ∀ x ∈ A, x ∈ f := fun x hx => (hlv x).1 (hsub x hx)
  have hr : (cq (fun x => decide (x ∈ A)) (k :: v :: r)).map (cu ρ f) = (bif decide (k.N ∈ A) then [cu ρ f k, cu ρ f v] else []) ++ (cq (fun x => decide (x ∈ A)) r).map (cu ρ f) := by
   show ((bif decide (k.N ∈ A) then [k, v] else []) ++ cq (fun x => decide (x ∈ A)) r).map (cu ρ f) = _
   rw [List.map_append]; cases decide (k.N ∈ A) <;> rfl
  rw [hr, ← ih]
  by_cases hd : k.N ∈ lv
  ·have hf := (hlv _).1 hd
   have e1 : decide (ρ k.N ∈ A.map ρ) = decide (k.N ∈ A) := dv (zl hρ hA hf)
   have e2 : cq (fun x => decide (x ∈ lv)) (k :: v :: r) = k :: v :: cq (fun x => decide (x ∈ lv)) r := by
    show (bif decide (k.N ∈ lv) then [k, v] else []) ++ _ = _
    rw [decide_eq_true hd]; rfl
   rw [e2]
   show (bif decide ((cu ρ f k).N ∈ A.map ρ) then [cu ρ f k, cu ρ f v] else []) ++ _ = _
   have e3 : (cu ρ f k).N = ρ k.N := by rw [pU hk hf]
   rw [e3, e1]
  have e2 : cq (fun x => decide (x ∈ lv)) (k :: v :: r) = cq (fun x => decide (x ∈ lv)) r := by
   show (bif decide (k.N ∈ lv) then [k, v] else []) ++ _ = _
   rw [decide_eq_false hd]; rfl
  rw [e2, decide_eq_false fun hx => hd (hsub _ hx)]; rfl
theorem xn {p q : Int → Bool} (h : ∀ x, p x = true → q x = true) {v : DValue} : ∀ {l : List DValue}, v ∈ cq p l → v ∈ cq q l
 | [], hv => by simp [cq] at hv
 | [_], hv => by simp [cq] at hv
 | k :: w :: r, hv => by
  simp only [li] at hv ⊢
  rcases List.mem_append.1 hv with hv | hv
  ·cases hp : p k.N with
   | false => rw [hp] at hv; cases hv
   | true => rw [hp] at hv; rw [h _ hp]; exact List.mem_append_left _ hv
  exact List.mem_append_right _ (xn h hv)
structure CellOk (N : Nat) (lv f : List Int) (c : DCell) : Prop where
 big : 2000 < N
 right : ea c = true
 slots : c.Slots.length ≤ 600
 more : c.More.length ≤ 600
 leads : ∀ x ∈ bn c, x ∈ f
 opens : ∀ x ∈ bE N c lv, x ∈ f
 mem : ∀ x, x ∈ lv ↔ x ∈ f
theorem mF {N : Nat} (hN : 2000 < N) {c : DCell} (h : ea c = true) (hS : c.Slots.length ≤ 600) (hM : c.More.length ≤ 600) : gB N c = decide (c.Kind = 8) := by
 unfold gB
 rw [oJ N hN c (by omega) (by omega), h]
 cases decide (c.Kind = 8) <;> rfl
theorem kx {N : Nat} (hN : 2000 < N) {c : DCell} (h : ea c = true) (hS : c.Slots.length ≤ 600) (hM : c.More.length ≤ 600) : lf N c = decide (c.Kind = 10) := by
 unfold lf
 rw [oJ N hN c (by omega) (by omega), h]
 cases decide (c.Kind = 10) <;> rfl
theorem At {N : Nat} (hN : 2000 < N) {c : DCell} (hS : c.Slots.length ≤ 600) (hM : c.More.length ≤ 600) : kf N c = ea c := by
 unfold kf
 rw [oJ N hN c (by omega) (by omega)]; rfl
section
variable {N : Nat} {ρ : Int → Int} {lv f : List Int} {c : DCell}
theorem Bd : (iP N lv c).Kind = c.Kind ∧ (iP N lv c).Shape = c.Shape ∧ (iP N lv c).Flags = c.Flags ∧ (iP N lv c).Slots = c.Slots := by
 unfold iP bR
 cases decide (c.Kind = 8) <;> cases decide (c.Kind = 10) <;> cases gB N c <;> exact ⟨rfl, rfl, rfl, rfl⟩
theorem CellOk.new (hρ : Ren ρ f) (h : CellOk N lv f c) : ea (eM ρ f (iP N lv c)) = true ∧ (eM ρ f (iP N lv c)).Slots.length ≤ 600 ∧ (eM ρ f (iP N lv c)).More.length ≤ 600 ∧ (eM ρ f (iP N lv c)).Kind = c.Kind := by
 have h1 := nD N lv c
 have h2 := h.slots
 have h3 := h.more
 exact ⟨DR hρ (Ef N lv h.right), by unfold eM; simp only [List.length_map]; omega, by unfold eM; simp only [List.length_map]; omega, Bd.1⟩
theorem CellOk.ent2 (h : CellOk N lv f c) (h8 : c.Kind = 8) : ka c.More = true := by
 have := (pH h.right).2.2
 rw [h8] at this; exact this
theorem CellOk.ent4 (h : CellOk N lv f c) (h10 : c.Kind = 10) : 1 ≤ c.More.length ∧ (lI c.More 0).Kind = 7 ∧ iH (c.More.drop 1) = true := by
 have := (pH h.right).2.2
 rw [h10] at this
 have h3' : (decide (1 ≤ c.More.length) && decide ((lI c.More 0).Kind = 7) && iH (c.More.drop 1)) = true := this
 simp only [Bool.and_eq_true, decide_eq_true_eq] at h3'
 exact ⟨h3'.1.1, h3'.1.2, h3'.2⟩
theorem CellOk.wm (h : CellOk N lv f c) : gB N c = decide (c.Kind = 8) := mF h.big h.right h.slots h.more
theorem CellOk.fr (h : CellOk N lv f c) : lf N c = decide (c.Kind = 10) := kx h.big h.right h.slots h.more
theorem CellOk.clC8 (h : CellOk N lv f c) (h8 : c.Kind = 8) : iP N lv c = ⟨c.Kind, c.Shape, c.Flags, c.Age, c.Slots, cq (fun x => decide (x ∈ lv)) c.More⟩ := by
 unfold iP bR
 rw [h.wm, decide_eq_true h8]; rfl
theorem CellOk.clC10 (h10 : c.Kind = 10) : iP N lv c = ⟨c.Kind, c.Shape, c.Flags, c.Age, c.Slots, c.More.take 1 ++ d8 lv (c.More.drop 1)⟩ := by
 unfold iP
 rw [decide_eq_false (p := c.Kind = 8) (by omega), decide_eq_true h10]; rfl
theorem CellOk.clC0 (h8 : c.Kind ≠ 8) (h10 : c.Kind ≠ 10) : iP N lv c = c := by
 unfold iP
 rw [decide_eq_false h8, decide_eq_false h10]; rfl
theorem CellOk.bare10 (h : CellOk N lv f c) (h10 : c.Kind = 10) : bx N c = ⟨c.Kind, c.Shape, c.Flags, c.Age, c.Slots, c.More.take 1⟩ := by
 unfold bx; rw [h.fr, decide_eq_true h10]; rfl
theorem CellOk.bare0 (h : CellOk N lv f c) (h10 : c.Kind ≠ 10) : bx N c = c := by
 unfold bx; rw [h.fr, decide_eq_false h10]; rfl
theorem CellOk.bareG (hρ : Ren ρ f) (h : CellOk N lv f c) : bx N (eM ρ f (iP N lv c)) = bif decide (c.Kind = 10) then eM ρ f (bx N c) else eM ρ f (iP N lv c) := by
 obtain ⟨g1, g2, g3, g4⟩ := CellOk.new hρ h
 by_cases h10 : c.Kind = 10
 ·rw [decide_eq_true h10, cond_true, h.bare10 h10]
  have e : lf N (eM ρ f (iP N lv c)) = true := by
   rw [kx h.big g1 g2 g3, g4, decide_eq_true h10]
  unfold bx
  rw [e, cond_true, CellOk.clC10 h10]
  unfold eM
  simp only [DCell.mk.injEq, true_and]
  obtain ⟨q1, -, -⟩ := h.ent4 h10
  obtain ⟨a, r, hr⟩ : ∃ a r, c.More = a :: r := by
   cases hm : c.More with
   | nil => rw [hm] at q1; simp at q1
   | cons a r => exact ⟨a, r, rfl⟩
  rw [hr]; rfl
 rw [decide_eq_false h10, cond_false]
 unfold bx
 rw [kx h.big g1 g2 g3, g4, decide_eq_false h10]; rfl
theorem Ce {c : DCell} (h8 : c.Kind = 8) : bn c = pick (fun _ v => bj v) 0 c.Slots := by
 unfold bn
 have e : (fun (i : Nat) (v : DValue) => !gu c.Kind i && bj v) = fun _ _ => false := by
  funext i v
  unfold gu
  rw [h8]; rfl
 rw [e, uc, List.append_nil]
theorem yq {ρ : Int → Int} {c : DCell} {f : List Int} (h : ∀ x ∈ bn c, x ∈ f) : bn (eM ρ f c) = (bn c).map ρ := by
 unfold bn at h ⊢
 rw [List.map_append]
 show pick (fun _ v => bj v) 0 (c.Slots.map (cu ρ f)) ++ pick (fun i v => !gu c.Kind i && bj v) 0 (c.More.map (cu ρ f)) = _
 rw [sX (fun _ v => bj v) (fun _ v => qK ρ f v) (fun _ _ h => h) 0 c.Slots fun x hx => h x (List.mem_append_left _ hx), sX (fun i v => !gu c.Kind i && bj v) (fun i v => by rw [qK]) (fun i v h => ((Bool.and_eq_true _ _).mp h).2) 0 c.More fun x hx => h x (List.mem_append_right _ hx)]
theorem CellOk.leadsG (hρ : Ren ρ f) (h : CellOk N lv f c) : bn (bx N (eM ρ f (iP N lv c))) = (bn (bx N c)).map ρ ∧ ∀ x ∈ bn (bx N c), x ∈ f := by
 have hb : ∀ x ∈ bn (bx N c), x ∈ f := fun x hx => h.leads x (Cd hx)
 refine ⟨?_, hb⟩
 rw [CellOk.bareG hρ h]
 by_cases h10 : c.Kind = 10
 ·rw [decide_eq_true h10, cond_true]
  exact yq hb
 rw [decide_eq_false h10, cond_false]
 rw [h.bare0 h10] at hb ⊢
 by_cases h8 : c.Kind = 8
 ·rw [h.clC8 h8, Ce (c := eM ρ f ⟨c.Kind, c.Shape, c.Flags, c.Age, c.Slots, cq (fun x => decide (x ∈ lv)) c.More⟩) h8, Ce h8]
  rw [Ce h8] at hb
  exact sX (fun _ v => bj v) (fun _ v => qK ρ f v) (fun _ _ h => h) 0 c.Slots hb
 rw [CellOk.clC0 h8 h10]
 exact yq hb
theorem CellOk.opensG (hρ : Ren ρ f) (h : CellOk N lv f c) {row : List Int} (hrow : ∀ x ∈ row, x ∈ f) : bE N (bx N (eM ρ f (iP N lv c))) (row.map ρ) = (bE N (bx N c) row).map ρ ∧ ∀ x ∈ bE N (bx N c) row, x ∈ f := by
 have hb : ∀ x ∈ bE N (bx N c) row, x ∈ f := fun x hx => h.opens x (BR (fun y hy => (h.mem y).2 (hrow y hy)) hx)
 refine ⟨?_, hb⟩
 obtain ⟨g1, g2, g3, g4⟩ := CellOk.new hρ h
 rw [CellOk.bareG hρ h]
 by_cases h10 : c.Kind = 10
 ·rw [decide_eq_true h10, cond_true, h.bare10 h10]
  unfold bE gB
  rw [show decide ((eM ρ f (⟨c.Kind, c.Shape, c.Flags, c.Age, c.Slots, c.More.take 1⟩ : DCell)).Kind = 8) = false from decide_eq_false (by show c.Kind ≠ 8; omega), show decide ((⟨c.Kind, c.Shape, c.Flags, c.Age, c.Slots, c.More.take 1⟩ : DCell).Kind = 8) = false from decide_eq_false (by show c.Kind ≠ 8; omega)]; rfl
 rw [decide_eq_false h10, cond_false]
 rw [h.bare0 h10] at hb ⊢
 unfold bE at hb ⊢
 rw [mF h.big g1 g2 g3, g4, h.wm]
 rw [h.wm] at hb
 by_cases h8 : c.Kind = 8
 ·rw [decide_eq_true h8] at hb ⊢
  rw [cond_true, cond_true, h.clC8 h8]
  exact yj hρ (fun x hx => (h.mem x).2 (hrow x hx)) h.mem (h.ent2 h8) hb
 rw [decide_eq_false h8]; rfl
theorem CellOk.cleanG (hρ : Ren ρ f) (h : CellOk N lv f c) {A : List Int} (hA : ∀ x ∈ A, x ∈ f) : bR N (A.map ρ) (bx N (eM ρ f (iP N lv c))) = eM ρ f (bR N A (bx N c)) := by
 obtain ⟨g1, g2, g3, g4⟩ := CellOk.new hρ h
 rw [CellOk.bareG hρ h]
 by_cases h10 : c.Kind = 10
 ·rw [decide_eq_true h10, cond_true, h.bare10 h10]
  unfold bR gB
  rw [show decide ((eM ρ f (⟨c.Kind, c.Shape, c.Flags, c.Age, c.Slots, c.More.take 1⟩ : DCell)).Kind = 8) = false from decide_eq_false (by show c.Kind ≠ 8; omega), show decide ((⟨c.Kind, c.Shape, c.Flags, c.Age, c.Slots, c.More.take 1⟩ : DCell).Kind = 8) = false from decide_eq_false (by show c.Kind ≠ 8; omega)]; rfl
 rw [decide_eq_false h10, cond_false, h.bare0 h10]
 unfold bR
 rw [mF h.big g1 g2 g3, g4, h.wm]
 by_cases h8 : c.Kind = 8
 ·rw [decide_eq_true h8, cond_true, cond_true, h.clC8 h8]
  unfold eM
  simp only [DCell.mk.injEq, true_and]
  exact yT hρ (fun x hx => (h.mem x).2 (hA x hx)) h.mem (h.ent2 h8)
 rw [decide_eq_false h8, cond_false, cond_false, CellOk.clC0 h8 h10]
theorem CellOk.inC (h : CellOk N lv f c) : jp f (iP N lv c).Slots ∧ jp f (iP N lv c).More := by
 refine ⟨by rw [Bd.2.2.2]; exact Ao h.leads, ?_⟩
 by_cases h8 : c.Kind = 8
 ·rw [h.clC8 h8]
  have ho := h.opens
  unfold bE at ho
  rw [h.wm, decide_eq_true h8, cond_true] at ho
  exact yU h.mem (h.ent2 h8) ho
 by_cases h10 : c.Kind = 10
 ·rw [CellOk.clC10 h10]
  obtain ⟨q1, q2, q3⟩ := h.ent4 h10
  obtain ⟨a, r, hr⟩ : ∃ a r, c.More = a :: r := by
   cases hm : c.More with
   | nil => rw [hm] at q1; simp at q1
   | cons a r => exact ⟨a, r, rfl⟩
  rw [hr] at q3
  have q3' : iH r = true := q3
  intro v hv hb
  have hv' : v = a ∨ v ∈ d8 lv r := by
   have : v ∈ a :: d8 lv r := by rw [hr] at hv; exact hv
   exact List.mem_cons.1 this
  rcases hv' with rfl | hv'
  ·refine vy h.leads (j := 0) (by rw [hr]; rfl) ?_ hb
   unfold gu; rw [h10]; rfl
  refine CW h.mem q3' (fun j w hj hw => vy h.leads (j := 4 * j + 2) (by rw [hr, show 4 * j + 2 = (4 * j + 1) + 1 by omega, List.getElem?_cons_succ]; exact hj) ?_ hw) v hv' hb
  unfold gu
  rw [h10]
  have e1 : (((4 * j + 2 : Nat) : Int) - 1).tmod 4 = 1 := by rw [Int.tmod_eq_emod_of_nonneg (by omega)]; omega
  have e2 : ((1 : Int)).tmod 2 = 1 := rfl
  rw [e1, e2]
  cases decide ((0 : Int) < ((4 * j + 2 : Nat) : Int)) <;> rfl
 rw [CellOk.clC0 h8 h10]
 intro v hv hb
 obtain ⟨j, hj, e⟩ := List.getElem_of_mem hv
 exact vy h.leads (j := j) (by rw [List.getElem?_eq_getElem hj, e]) (Bw h8 h10 j) hb
theorem CellOk.inD (h : CellOk N lv f c) {A : List Int} (hA : ∀ x ∈ A, x ∈ f) : jp f (bR N A (bx N c)).Slots ∧ jp f (bR N A (bx N c)).More := by
 obtain ⟨i1, i2⟩ := h.inC
 by_cases h10 : c.Kind = 10
 ·rw [h.bare10 h10]
  unfold bR gB
  rw [show decide ((⟨c.Kind, c.Shape, c.Flags, c.Age, c.Slots, c.More.take 1⟩ : DCell).Kind = 8) = false from decide_eq_false (by show c.Kind ≠ 8; omega)]
  rw [CellOk.clC10 h10] at i1 i2
  exact ⟨i1, fun v hv => i2 v (List.mem_append_left _ hv)⟩
 rw [h.bare0 h10]
 unfold bR
 rw [h.wm]
 by_cases h8 : c.Kind = 8
 ·rw [decide_eq_true h8, cond_true]
  rw [h.clC8 h8] at i1 i2
  refine ⟨i1, fun v hv => i2 v (xn (fun x hx => ?_) hv)⟩
  exact decide_eq_true ((h.mem x).2 (hA x (of_decide_eq_true hx)))
 rw [decide_eq_false h8, cond_false]
 rw [CellOk.clC0 h8 h10] at i1 i2
 exact ⟨i1, i2⟩
end
end Go.Proofs.YtmbaennilhdieaaGreat
namespace Go.Proofs.YtmbaennilhdieaaGreat
open Go.RowKit
theorem EK : reachBytes ≤ 140737488355328 := by decide
theorem EJ (m : DMemory) (roots : List DValue) (hm : oI m) (hr : F3 (fun z => jr z) roots) : Bnd 140737488355328 m roots ∧ W64 m ∧ ∀ v ∈ roots, in64 v.N := by
 have hb := EK
 obtain ⟨⟨y1, y2⟩, o1, o2⟩ := hm
 have hc : ∀ c ∈ m.Young ++ m.Old, sC c := fun c hc => (List.mem_append.1 hc).elim (y2 c) (o2 c)
 refine ⟨⟨Nat.le_trans y1 hb, Nat.le_trans o1 hb, Nat.le_trans hr.1 hb, fun c h => ?_⟩, fun c h v hv => ?_, fun v hv => (hr.2 v hv).2.1⟩
 ·obtain ⟨-, -, -, -, s, t⟩ := hc c h
  exact ⟨Nat.le_trans s.1 hb, Nat.le_trans t.1 hb⟩
 obtain ⟨-, -, -, -, s, t⟩ := hc c h
 rcases List.mem_append.1 hv with hv | hv
 ·exact (s.2 v hv).2.1
 exact (t.2 v hv).2.1
theorem CL (N : Nat) (hN : 5000 < N) {m : DMemory} {x : List DValue} (hs : Small m x) (hw : W64 m) (hx : ∀ v ∈ x, in64 v.N) : ∃ L, SideOk (cy N m) x L ∧ co N (cy N m) x = some L ∧ fX N (cy N m) x = some L := by
 obtain ⟨bg, all, ho, hlen, -, -, o0⟩ := lW N hN (hs.bare N) (hw.bare N) hx
 obtain ⟨b', all', ho', r0, -⟩ := wc N hN (hs.bare N) (hw.bare N) hx
 obtain ⟨-, e2⟩ := ho.det ho'
 subst e2
 exact ⟨all, ⟨hs.bare N, hw.bare N, hx, hlen, ho.nodup.2, ho.has.2⟩, o0, r0⟩
theorem kD (N : Nat) (hN : 5000 < N) {a b : DMemory} {x y : List DValue} (ha : Small a x) (hb : Small b y) (wa : W64 a) (wb : W64 b) (hx : ∀ v ∈ x, in64 v.N) (hy : ∀ v ∈ y, in64 v.N) : ∃ LA LB, SideOk (cy N a) x LA ∧ SideOk (cy N b) y LB ∧ co N (cy N a) x = some LA ∧ co N (cy N b) y = some LB ∧ fx N a x b y = some (gr N (cy N a) x LA (cy N b) y LB) ∧ nr N a x b y = some (gr N (cy N a) x LA (cy N b) y LB) := by
 obtain ⟨LA, sA, oA, rA⟩ := CL N hN ha wa hx
 obtain ⟨LB, sB, oB, rB⟩ := CL N hN hb wb hy
 exact ⟨LA, LB, sA, sB, oA, oB, CB N hN (yY N hN ha) (yY N hN hb) sA sB oA oB, Em N hN (Ap N hN ha rA) (Ap N hN hb rB) sA sB⟩
theorem vK {c : DCell} {v : DValue} (hv : v ∈ c.Slots ++ c.More) (hb : bj v = true) : v.N ∈ di c := by
 unfold di
 rcases List.mem_append.1 hv with hv | hv
 ·exact List.mem_append_left _ (Ao (f := bn c) (fun x hx => hx) v hv hb)
 obtain ⟨j, hj, e⟩ := List.getElem_of_mem hv
 cases hw : gu c.Kind j with
 | false => exact List.mem_append_left _ (vy (f := bn c) (fun x hx => hx) (by rw [List.getElem?_eq_getElem hj, e]) hw hb)
 | true => exact List.mem_append_right _ (vv (j := j) (by rw [List.getElem?_eq_getElem hj, e]) (by rw [Nat.zero_add, hw, hb]; rfl))
theorem qH {p : Int → Bool} {x : Int} : ∀ {l : List DValue}, x ∈ opens p l → ∃ v ∈ l, bj v = true ∧ v.N = x
 | [], h => by simp [opens] at h
 | [_], h => by simp [opens] at h
 | k :: v :: l, h => by
  rw [fA] at h
  rcases List.mem_append.1 h with h | h
  ·cases hv : bj v && p k.N with
   | false => rw [hv] at h; cases h
   | true =>
    rw [hv] at h
    rw [Bool.and_eq_true] at hv
    exact ⟨v, by simp, hv.1, (List.mem_singleton.1 h).symm⟩
  obtain ⟨w, h1, h2⟩ := qH h
  exact ⟨w, by simp [h1], h2⟩
structure CollCtx (N : Nat) (m : DMemory) (roots : List DValue) (live f : List Int) : Prop where
 big : 5000 < N
 small : Small m roots
 tot : Wtd m roots
 w64 : W64 m
 r64 : ∀ v ∈ roots, in64 v.N
 lv : Live N m roots live f
 right : ∀ c ∈ m.Young ++ m.Old, ea c = true
 addr : ∀ c ∈ m.Young ++ m.Old, ∀ x ∈ di c, aT m x = true
 roots : ∀ x ∈ bJ roots, aT m x = true
theorem Fw {N : Nat} (hN : 5000 < N) {m : DMemory} {roots : List DValue} (hs : Small m roots) (ht : Wtd m roots) (hw : W64 m) (hr : ∀ v ∈ roots, in64 v.N) {live f : List Int} (hl : Live N m roots live f) (h0 : kC N m roots = 0) : CollCtx N m roots live f := by
 obtain ⟨h1, h2, h3⟩ := yV h0
 exact ⟨hN, hs, ht, hw, hr, hl, fun c hc => by have := hs.cells c hc; rw [← At (N := N) (by omega) this.1 this.2]; exact h1 c hc, h2, h3⟩
section
variable {N : Nat} {m : DMemory} {roots : List DValue} {live f : List Int} (h : CollCtx N m roots live f)
include h
theorem CollCtx.mem (x : Int) : x ∈ live ↔ x ∈ f := (h.lv.mem x).symm
theorem CollCtx.cell {a : Int} (ha : a ∈ f) : CellOk N live f (bI m a) := by
 have hm := z6 (h.lv.fhas ha)
 obtain ⟨b, all, ho, hlv, -⟩ := h.lv.ord
 have hall : ∀ x, x ∈ all ↔ x ∈ f := fun x => by rw [← h.mem x, hlv]; exact (qz all x).symm
 obtain ⟨q1, q2⟩ := ho.closed
 have hs := h.small.cells _ hm
 have hN := h.big
 refine ⟨by omega, h.right _ hm, hs.1, hs.2, fun x hx => ?_, fun x hx => ?_, h.mem⟩
 ·exact (hall x).1 (q1 a ((hall a).2 ha) x hx (h.addr _ hm x (List.mem_append_left _ hx)))
 have e : bE N (bI m a) live = bE N (bI m a) all := by
  unfold bE
  rw [Ax (q := fun x => decide (x ∈ all)) fun x => dv (by rw [h.mem x]; exact (hall x).symm)]
 rw [e] at hx
 refine (hall x).1 (q2 a ((hall a).2 ha) x hx ?_)
 unfold bE at hx
 cases hw : gB N (bI m a) with
 | false => rw [hw] at hx; cases hx
 | true =>
  rw [hw] at hx
  obtain ⟨v, hv, hb, rfl⟩ := qH hx
  exact h.addr _ hm _ (vK (List.mem_append_right _ hv) hb)
theorem CollCtx.root {x : Int} (hx : x ∈ bJ roots) : x ∈ f := by
 obtain ⟨b, all, ho, hlv, -⟩ := h.lv.ord
 rw [← h.mem x, hlv, qz]
 exact ho.sub (ho.roots hx (h.roots x hx))
theorem CollCtx.rootIn : jp f roots := fun v hv hb => h.root (lZ.2 ⟨v, hv, hb, rfl⟩)
end
def jE (N : Nat) (m : DMemory) (live f : List Int) : DMemory := ⟨[], f.map fun a => eM (lT f) f (iP N live (bI m a))⟩
def I6 (N : Nat) (m : DMemory) (live f : List Int) (a : Int) : DCell := eM (lT f) f (iP N live (bI m a))
theorem wK {N : Nat} {m : DMemory} {live f : List Int} {a : Int} (ha : a ∈ f) : aT (jE N m live f) (lT f a) = true := by
 unfold lT
 rw [xa]
 exact decide_eq_true (by unfold jE; simp only [List.length_map]; exact nR ha)
theorem Gj {N : Nat} {m : DMemory} {live f : List Int} {a : Int} (ha : a ∈ f) : bI (jE N m live f) (lT f a) = eM (lT f) f (iP N live (bI m a)) := by
 have e : lT f a = 2 * ((f.idxOf a : Nat) : Int) + 2 := rfl
 rw [e, uY _ _ (by unfold jE; simp only [List.length_map]; exact nR ha)]
 unfold jE
 simp only [List.getElem_map]
 rw [kO ha]
theorem yn {f : List Int} {v : DValue} (hf : f.length ≤ 100000) (hv : in64 v.N) : in64 (cu (lT f) f v).N := by
 unfold cu
 cases hb : bj v && decide (v.N ∈ f) with
 | false => exact hv
 | true =>
  rw [Bool.and_eq_true, decide_eq_true_eq] at hb
  have := nR hb.2
  show in64 (lT f v.N)
  unfold lT in64; omega
theorem C5 {N : Nat} {lv : List Int} {c : DCell} {v : DValue} (hv : v ∈ (iP N lv c).Slots ++ (iP N lv c).More) : v ∈ c.Slots ++ c.More ∨ v = jq := by
 unfold iP at hv
 cases h8 : decide (c.Kind = 8) with
 | true => rw [h8] at hv; exact .inl (sg hv)
 | false =>
  rw [h8] at hv
  cases h10 : decide (c.Kind = 10) with
  | false => rw [h10] at hv; exact .inl hv
  | true =>
   rw [h10] at hv
   have hv' : v ∈ c.Slots ++ (c.More.take 1 ++ d8 lv (c.More.drop 1)) := hv
   rcases List.mem_append.1 hv' with hv' | hv'
   ·exact .inl (List.mem_append_left _ hv')
   rcases List.mem_append.1 hv' with hv' | hv'
   ·exact .inl (List.mem_append_right _ (List.mem_of_mem_take hv'))
   rcases wX lv hv' with hv' | hv'
   ·exact .inl (List.mem_append_right _ (List.mem_of_mem_drop hv'))
   exact .inr hv'
section
variable {N : Nat} {m : DMemory} {roots : List DValue} {live f : List Int} (h : CollCtx N m roots live f)
include h
theorem CollCtx.flen : f.length ≤ 1200 := by rw [h.lv.len]; exact h.lv.small
theorem CollCtx.flen6 : f.length ≤ 600 := by
 have h1 := pB (fun _ => 1) h.lv.nd fun a ha => tg (h.lv.fhas ha)
 have h2 : ∀ l : List Int, cV (fun _ => 1) l = l.length := fun l => by
  induction l with
  | nil => rfl
  | cons x l ih => rw [cV, ih, List.length_cons]; omega
 rw [h2, h2] at h1
 have h3 := h.tot.cnt
 unfold xy at h1
 simp only [List.length_append, List.length_map, List.length_range] at h1
 omega
theorem CollCtx.nextW : W64 (jE N m live f) := fun c hc v hv => by
 have hl := h.flen
 have hc' : c ∈ f.map fun a => eM (lT f) f (iP N live (bI m a)) := hc
 obtain ⟨a, ha, rfl⟩ := List.mem_map.1 hc'
 have hv' : v ∈ ((iP N live (bI m a)).Slots ++ (iP N live (bI m a)).More).map (cu (lT f) f) := by rw [List.map_append]; exact hv
 obtain ⟨w, hw, rfl⟩ := List.mem_map.1 hv'
 refine yn (by omega) ?_
 rcases C5 hw with hw | rfl
 ·exact h.w64.at_ a w hw
 show in64 0; unfold in64; omega
theorem CollCtx.nextS (l : List DValue) (hl : l.length ≤ 600) : Small (jE N m live f) l := by
 refine ⟨Nat.zero_le _, ?_, hl, fun c hc => ?_⟩
 ·unfold jE
  simp only [List.length_map]
  exact h.flen6
 have hc' : c ∈ f.map fun a => eM (lT f) f (iP N live (bI m a)) := hc
 obtain ⟨a, ha, rfl⟩ := List.mem_map.1 hc'
 obtain ⟨-, g2, g3, -⟩ := (CellOk.new (oK f) (h.cell ha))
 exact ⟨g2, g3⟩
end
theorem uw {ρ : Int → Int} {f : List Int} : ∀ {l : List DValue}, jp f l → bJ (l.map (cu ρ f)) = (bJ l).map ρ
 | [], _ => rfl
 | v :: l, h => by
  have ih := uw (ρ := ρ) (l := l) fun w hw => h w (by simp [hw])
  unfold bJ at ih ⊢
  rw [List.map_cons, List.filter_cons, List.filter_cons, qK]
  cases hb : bj v with
  | false => exact ih
  | true =>
   simp only [if_true, List.map_cons, ih]
   rw [pU hb (h v (by simp) hb)]
theorem ne {α β : Type} (g : α → β) (p : α × β → Bool) : ∀ l : List α, (l.zip (l.map g)).all p = l.all fun a => p (a, g a)
 | [] => rfl
 | a :: l => by rw [List.map_cons, List.zip_cons_cons, List.all_cons, List.all_cons, ne g p l]
theorem Fy {ρ : Int → Int} {f A : List Int} {ha hb : Int → Bool} (hρ : Ren ρ f) (hA : ∀ x ∈ A, x ∈ f) (h1 : ∀ x ∈ f, ha x = true) (h2 : ∀ x ∈ f, hb (ρ x) = true) {v : DValue} (hv : bj v = true → v.N ∈ f) : pu ha hb A (A.map ρ) v (cu ρ f v) = true := by
 cases hh : bj v with
 | false =>
  rw [Gk hh]
  unfold pu
  rw [hh]
  exact decide_eq_true rfl
 | true =>
  have hf := hv hh
  rw [pU hh hf]
  unfold pu
  have hh2 : bj (⟨v.Kind, ρ v.N, v.S⟩ : DValue) = true := hh
  rw [hh, hh2]
  simp only [Bool.not_true, Bool.or_self, cond_false]
  rw [decide_eq_true (p := True) trivial, beq_self_eq_true, dv (zl hρ hA hf), h1 _ hf, h2 _ hf]
  by_cases hm : v.N ∈ A
  ·rw [decide_eq_true hm, yx hρ hf hA, decide_eq_true (p := A.idxOf v.N = A.idxOf v.N) rfl]; rfl
  rw [decide_eq_false hm]; rfl
theorem lY {ρ : Int → Int} {f A : List Int} {ha hb : Int → Bool} (hρ : Ren ρ f) (hA : ∀ x ∈ A, x ∈ f) (h1 : ∀ x ∈ f, ha x = true) (h2 : ∀ x ∈ f, hb (ρ x) = true) {l : List DValue} (hl : jp f l) : iI ha hb A (A.map ρ) l (l.map (cu ρ f)) = true := by
 unfold iI
 rw [ne, decide_eq_true (by simp), Bool.true_and, List.all_eq_true]
 exact fun v hv => Fy hρ hA h1 h2 (hl v hv)
theorem sZ {F : Nat → DValue → Bool} {x : Int} (hB : ∀ i v, F i v = true → bj v = true) : ∀ {i : Nat} {l : List DValue}, x ∈ pick F i l → ∃ v ∈ l, bj v = true ∧ v.N = x
 | _, [], h => by cases h
 | i, v :: l, h => by
  rw [ew] at h
  rcases List.mem_append.1 h with h | h
  ·cases hf : F i v with
   | false => rw [hf] at h; cases h
   | true => rw [hf] at h; exact ⟨v, by simp, hB i v hf, (List.mem_singleton.1 h).symm⟩
  obtain ⟨w, g1, g2⟩ := sZ hB h
  exact ⟨w, by simp [g1], g2⟩
theorem Er {c : DCell} {x : Int} (h : x ∈ di c) : ∃ v ∈ c.Slots ++ c.More, bj v = true ∧ v.N = x := by
 unfold di bn ga at h
 rcases List.mem_append.1 h with h | h
 ·rcases List.mem_append.1 h with h | h
  ·obtain ⟨v, g1, g2⟩ := sZ (fun _ _ h => h) h; exact ⟨v, List.mem_append_left _ g1, g2⟩
  obtain ⟨v, g1, g2⟩ := sZ (fun i v h => ((Bool.and_eq_true _ _).mp h).2) h; exact ⟨v, List.mem_append_right _ g1, g2⟩
 obtain ⟨v, g1, g2⟩ := sZ (fun i v h => ((Bool.and_eq_true _ _).mp h).2) h; exact ⟨v, List.mem_append_right _ g1, g2⟩
section
variable {N : Nat} {m : DMemory} {roots : List DValue} {live f : List Int} (h : CollCtx N m roots live f)
include h
theorem CollCtx.atB {a : Int} (ha : a ∈ f) : bI (cy N m) a = bx N (bI m a) := oC N m a (h.lv.fhas ha)
theorem CollCtx.atNB {a : Int} (ha : a ∈ f) : bI (cy N (jE N m live f)) (lT f a) = bx N (eM (lT f) f (iP N live (bI m a))) := by
 have _ := h
 rw [oC N _ _ (wK ha), Gj ha]
theorem CollCtx.graph : MapG (uP N (cy N m)) (uP N (cy N (jE N m live f))) (lT f) (· ∈ f) := by
 refine ⟨fun a b ha hb e => CN ha hb e, fun a ha => ⟨?_, ?_⟩, fun a ha => ?_, fun row a hr ha => ?_⟩
 ·show aT (cy N m) a = true
  rw [jv]; exact h.lv.fhas ha
 ·show aT (cy N (jE N m live f)) (lT f a) = true
  rw [jv]; exact wK ha
 ·show bn (bI (cy N (jE N m live f)) (lT f a)) = (bn (bI (cy N m) a)).map (lT f) ∧ ∀ x ∈ bn (bI (cy N m) a), x ∈ f
  rw [h.atNB ha, h.atB ha]
  exact CellOk.leadsG (oK f) (h.cell ha)
 show bE N (bI (cy N (jE N m live f)) (lT f a)) (row.map (lT f)) = (bE N (bI (cy N m) a) row).map (lT f) ∧ ∀ x ∈ bE N (bI (cy N m) a) row, x ∈ f
 rw [h.atNB ha, h.atB ha]
 exact CellOk.opensG (oK f) (h.cell ha) hr
theorem CollCtx.nowLen : (roots.map (cu (lT f) f)).length ≤ 600 := by rw [List.length_map]; exact h.small.roots
theorem CollCtx.now64 : ∀ v ∈ roots.map (cu (lT f) f), in64 v.N := fun v hv => by
 have hl := h.flen
 obtain ⟨w, hw, rfl⟩ := List.mem_map.1 hv
 exact yn (by omega) (h.r64 w hw)
theorem CollCtx.alike : fx N m roots (jE N m live f) (roots.map (cu (lT f) f)) = some true ∧ nr N m roots (jE N m live f) (roots.map (cu (lT f) f)) = some true := by
 have hN := h.big
 have hsN := h.nextS _ h.nowLen
 obtain ⟨LA, LB, sA, sB, oA, oB, p1, p2⟩ := kD N hN h.small hsN h.w64 h.nextW h.r64 h.now64
 obtain ⟨b1, L1, i1, -, -, -, e1⟩ := lW N hN (h.small.bare N) (h.w64.bare N) h.r64
 obtain ⟨b2, L2, i2, -, -, -, e2⟩ := lW N hN (hsN.bare N) (h.nextW.bare N) h.now64
 rw [e1] at oA
 rw [e2] at oB
 obtain rfl := Option.some.inj oA
 obtain rfl := Option.some.inj oB
 obtain ⟨i3, hL1⟩ := h.graph.isOrder i1 fun x hx => h.root hx
 rw [uw h.rootIn] at i2
 obtain ⟨-, eL⟩ := i2.det i3
 subst eL
 have hA1 : ∀ x ∈ f, aT (cy N m) x = true := fun x hx => by rw [jv]; exact h.lv.fhas hx
 have hA2 : ∀ x ∈ f, aT (cy N (jE N m live f)) (lT f x) = true := fun x hx => by rw [jv]; exact wK hx
 have key : gr N (cy N m) roots L1 (cy N (jE N m live f)) (roots.map (cu (lT f) f)) (L1.map (lT f)) = true := by
  unfold gr
  rw [decide_eq_true (by simp), lY (oK f) hL1 hA1 hA2 h.rootIn, ne, Bool.true_and, Bool.true_and, List.all_eq_true]
  intro a ha
  have haf := hL1 a ha
  simp only
  rw [h.atB haf, h.atNB haf, CellOk.cleanG (oK f) (h.cell haf) hL1]
  obtain ⟨d1, d2⟩ := (h.cell haf).inD hL1
  generalize bR N L1 (bx N (bI m a)) = D at *
  unfold mN eM
  rw [lY (oK f) hL1 hA1 hA2 d1, lY (oK f) hL1 hA1 hA2 d2, decide_eq_true (p := D.Kind = D.Kind) rfl, decide_eq_true (p := D.Shape = D.Shape) rfl, decide_eq_true (p := D.Flags = D.Flags) rfl]; rfl
 rw [p1, p2, key]
 exact ⟨rfl, rfl⟩
end
end Go.Proofs.YtmbaennilhdieaaGreat
namespace Go.Proofs.YtmbaennilhdieaaGreat
open Go.RowKit
def bW (n : Nat) : List Int := (List.range n).map fun i : Nat => 2 * (i : Int) + 2
theorem D4 (n : Nat) : (bW n).Pairwise (· < ·) := by
 unfold bW
 rw [List.pairwise_map]
 exact List.pairwise_lt_range.imp fun h => by omega
theorem yC {n i : Nat} (h : i < (bW n).length) : (bW n)[i] = 2 * (i : Int) + 2 := by simp [bW]
def ms (g : Gr) (live : List Int) : List Int → List Int → List Int
 | row, [] => row
 | row, a :: avs => ms g live (cL g.has row (g.opens live a)) avs
inductive MOrd (g : Gr) (olds kept : List Int) : List Int → List Int → Prop
 | done {row : List Int} : ms g (olds ++ row) row (kept ++ row) = row → MOrd g olds kept row row
 | step {row r1 r : List Int} : ms g (olds ++ row) row (kept ++ row) ≠ row → Thr g (ms g (olds ++ row) row (kept ++ row)) row.length r1 → MOrd g olds kept r1 r → MOrd g olds kept row r
structure IsMinor (g : Gr) (olds kept start b l : List Int) : Prop where
 strong : Thr g (cL g.has [] start) 0 b
 all : MOrd g olds kept b l
theorem oo (g : Gr) (live : List Int) : ∀ (row avs : List Int), ∃ t, ms g live row avs = row ++ t
 | row, [] => ⟨[], by simp [ms]⟩
 | row, a :: avs => by
  obtain ⟨t, h1, -⟩ := eN g.has row (g.opens live a)
  obtain ⟨t2, h2⟩ := oo g live (cL g.has row (g.opens live a)) avs
  exact ⟨t ++ t2, by unfold ms; rw [h2, h1, List.append_assoc]⟩
theorem yg (g : Gr) (live : List Int) : ∀ (row avs bs : List Int), ms g live row (avs ++ bs) = ms g live (ms g live row avs) bs
 | _, [], _ => rfl
 | row, a :: avs, bs => by
  show ms g live _ (avs ++ bs) = _
  rw [yg g live _ avs bs]; rfl
theorem yh {g : Gr} {live : List Int} : ∀ {row avs : List Int}, ms g live row avs = row → ∀ a ∈ avs, ∀ x ∈ g.opens live a, g.has x = true → x ∈ row
 | row, b :: avs, h, a, ha, x, hx, hh => by
  have h1 : cL g.has row (g.opens live b) = row := by
   obtain ⟨t, e1, -⟩ := eN g.has row (g.opens live b)
   obtain ⟨t2, e2⟩ := oo g live (cL g.has row (g.opens live b)) avs
   have h3 : row ++ t ++ t2 = row := by rw [← e1, ← e2]; exact h
   have h4 := congrArg List.length h3
   simp only [List.length_append] at h4
   have h5 : t = [] := List.eq_nil_of_length_eq_zero (by omega)
   rw [e1, h5, List.append_nil]
  rcases List.mem_cons.1 ha with e | ha
  ·subst e; have := ox row _ hx hh; rwa [h1] at this
  refine yh (avs := avs) ?_ a ha x hx hh
  unfold ms at h; rw [h1] at h; exact h
theorem MOrd.app {g : Gr} {olds kept row r : List Int} (h : MOrd g olds kept row r) : ∃ t, r = row ++ t := by
 induction h with
 | done _ => exact ⟨[], by simp⟩
 | step _ h1 _ ih =>
  rename_i row r1 _ _ _
  obtain ⟨t, rfl⟩ := ih
  obtain ⟨t1, rfl⟩ := h1.app
  obtain ⟨t2, h2⟩ := oo g (olds ++ row) row (kept ++ row)
  exact ⟨t2 ++ t1 ++ t, by rw [h2]; simp [List.append_assoc]⟩
theorem MOrd.closed {g : Gr} {olds kept row r : List Int} (h : MOrd g olds kept row r) (hc : CloG g row row.length) : CloG g r r.length ∧ ∀ a ∈ kept ++ r, ∀ x ∈ g.opens (olds ++ r) a, g.has x = true → x ∈ r := by
 induction h with
 | done hp => exact ⟨hc, yh hp⟩
 | step _ h1 _ ih =>
  rename_i row _ _ _ _
  obtain ⟨t, e⟩ := oo g (olds ++ row) row (kept ++ row)
  refine ih (h1.clo (by rw [e, List.length_append]; omega) ?_)
  rw [e]; exact hc.app (Nat.le_refl _)
theorem IsMinor.start {g : Gr} {olds kept start b l : List Int} (h : IsMinor g olds kept start b l) {x : Int} (hx : x ∈ start) (hh : g.has x = true) : x ∈ l := by
 obtain ⟨t, e⟩ := h.strong.app
 obtain ⟨t2, e2⟩ := h.all.app
 rw [e2, e]
 exact List.mem_append_left _ (List.mem_append_left _ (ox _ _ hx hh))
theorem IsMinor.closed {g : Gr} {olds kept start b l : List Int} (h : IsMinor g olds kept start b l) : (∀ a ∈ l, ∀ x ∈ g.leads a, g.has x = true → x ∈ l) ∧ ∀ a ∈ kept ++ l, ∀ x ∈ g.opens (olds ++ l) a, g.has x = true → x ∈ l := by
 obtain ⟨h1, h2⟩ := h.all.closed (h.strong.clo (Nat.zero_le _) fun i _ _ hi => absurd hi (by omega))
 refine ⟨fun a ha x hx hh => ?_, h2⟩
 obtain ⟨i, hi, e⟩ := List.getElem_of_mem ha
 exact h1 i a x hi (by rw [List.getElem?_eq_getElem hi, e]) hx hh
def yB (a : Int) : Bool := decide (0 < a) && decide (a.tmod 2 = 1)
def D1 (N : Nat) (m : DMemory) : Gr := ⟨yB, fun a => bn (bI m a), fun live a => bE N (bI m a) live⟩
theorem ma (N : Nat) (a : Int) : ep N a = some (yB a) := by
 unfold ep yB
 cases decide (0 < a) <;> cases decide (a.tmod 2 = 1) <;> rfl
theorem Bu (k : Nat) : yB (2 * (k : Int) + 1) = true := by
 unfold yB
 rw [rm (by omega), decide_eq_true (by omega), decide_eq_true (by omega)]; rfl
theorem vt (k : Nat) : yB (2 * (k : Int) + 2) = false := by
 unfold yB
 rw [rm (by omega), decide_eq_false (p := (2 * (k : Int) + 2) % 2 = 1) (by omega), Bool.and_false]
structure Mt (m : DMemory) (met : List Int) (seen : List (Int × Bool)) : Prop where
 nd : met.Nodup
 yng : ∀ x ∈ met, yB x = true
 has : ∀ x ∈ met, aT m x = true
 mem : ∀ x, (lk seen x).getD false = decide (x ∈ met)
theorem Mt.len {m : DMemory} {roots : List DValue} (hs : Small m roots) {met : List Int} {seen : List (Int × Bool)} (h : Mt m met seen) : met.length ≤ 1200 := te 1200 h.nd fun x hx => ⟨by have := mG (h.has x hx); omega, by have := qM hs (h.has x hx); omega⟩
theorem Mt.nil (m : DMemory) : Mt m [] [] := ⟨List.nodup_nil, by simp, by simp, fun x => by simp; rfl⟩
theorem yo (N : Nat) {m : DMemory} {roots : List DValue} (hs : Small m roots) (kp : List Int) {met : List Int} {seen : List (Int × Bool)} (nx : Int) (h : Mt m met seen) (a : Int) (ha : yB a = true → aT m a = true) : ∃ seen', bY N ⟨m, kp, met, seen, nx⟩ a = some ⟨m, kp, cL yB met [a], seen', nx⟩ ∧ Mt m (cL yB met [a]) seen' := by
 have hlen := h.len hs
 unfold bY
 rw [ma, bs]
 dsimp only
 rw [h.mem a]
 have hl : cL yB met [a] = bif yB a && !decide (a ∈ met) then met ++ [a] else met := rfl
 rw [hl]
 cases hy : yB a with
 | false => exact ⟨seen, rfl, h⟩
 | true =>
  by_cases hm : a ∈ met
  ·rw [decide_eq_true hm]; exact ⟨seen, rfl, h⟩
  rw [decide_eq_false hm]
  refine ⟨na seen a true, ?_, ?_⟩
  ·simp only [ct, bs, nf]
   rw [rF (by simp; omega)]; rfl
  refine ⟨List.nodup_append.2 ⟨h.nd, by simp, fun x hx y hy e => by rw [List.mem_singleton] at hy; subst hy; subst e; exact hm hx⟩, fun x hx => ?_, fun x hx => ?_, fun x => ?_⟩
  ·rcases List.mem_append.1 hx with hx | hx
   ·exact h.yng x hx
   rw [List.mem_singleton] at hx; subst hx; exact hy
  ·rcases List.mem_append.1 hx with hx | hx
   ·exact h.has x hx
   rw [List.mem_singleton] at hx; subst hx; exact ha hy
  rw [yp]
  show _ = decide (x ∈ met ++ [a])
  by_cases e : a = x
  ·rw [if_pos e, decide_eq_true (by simp [e])]; rfl
  rw [if_neg e, h.mem x]
  exact dv ⟨fun hx => List.mem_append_left _ hx, fun hx => (List.mem_append.1 hx).elim id fun hx => absurd (List.mem_singleton.1 hx).symm e⟩
theorem ui {ρ : Type} (N : Nat) {m : DMemory} {roots : List DValue} (hs : Small m roots) (l : List Int) (hl : l.length < N) (hl2 : l.length ≤ 5000) (hh : ∀ x ∈ l, yB x = true → aT m x = true) (L : Nat → Int → List DCell → List DCell → List Int → List Int → List (Int × Bool) → Int → Option ρ) (K : List DCell → List DCell → List Int → List Int → List (Int × Bool) → Int → Option ρ)
  (hrec : ∀ k i Y O kp met seen nx, L (k + 1) i Y O kp met seen nx = bif decide (i < (l.length : Int)) then ((aG l i).bind fun x => (bY N (⟨(⟨Y, O⟩ : DMemory), kp, met, seen, nx⟩ : DMeeter) x).bind fun y => bM (in64 (i + 1)) (L k (i + 1) y.m_.Young y.m_.Old y.kept_ y.met_ y.seen_ y.next_)) else K Y O kp met seen nx)
  (kp : List Int) {met : List Int} {seen : List (Int × Bool)} (nx : Int) (h : Mt m met seen) (R : ρ → Prop) (hk : ∀ seen', Mt m (cL yB met l) seen' → Sat (K m.Young m.Old kp (cL yB met l) seen' nx) R) : Sat (L N 0 m.Young m.Old kp met seen nx) R := by
 refine ck (fun k i (s : List Int × List (Int × Bool)) => L k (i : Int) m.Young m.Old kp s.1 s.2 nx) l.length (fun i s => Mt m s.1 s.2 ∧ s.1 = cL yB met (l.take i)) R ?_ ?_ N 0 (met, seen) (by omega) (by omega) ⟨h, rfl⟩
 ·rintro k i ⟨mt, sn⟩ hi ⟨h1, h2⟩ go
  simp only at h1 h2
  show Sat (L (k + 1) (i : Int) m.Young m.Old kp mt sn nx) R
  obtain ⟨sn', e1, e2⟩ := yo N hs kp nx h1 l[i] (hh _ (List.getElem_mem _))
  have e1' : bY N ⟨⟨m.Young, m.Old⟩, kp, mt, sn, nx⟩ l[i] = some ⟨m, kp, cL yB mt [l[i]], sn', nx⟩ := e1
  rw [hrec, cv (by omega), ct, aU hi, bs, e1', bs, r64 (by omega) (by omega)]
  exact go (cL yB mt [l[i]], sn') ⟨e2, by show cL yB mt [l[i]] = _; rw [aP hi, mD, ← h2]⟩
 rintro k ⟨mt, sn⟩ ⟨h1, h2⟩
 simp only [List.take_length] at h1 h2
 show Sat (L (k + 1) _ m.Young m.Old kp mt sn nx) R
 rw [hrec, cp (by omega), cf]
 subst h2
 exact hk sn h1
theorem mB (N : Nat) {m : DMemory} {roots : List DValue} (hs : Small m roots) (kp met : List Int) (seen : List (Int × Bool)) (nx : Int) {a : Int} (ha : aT m a = true) : bP N ⟨m, kp, met, seen, nx⟩ a = some (bI m a) := by
 have hy := hs.young
 have ho := hs.old
 unfold bP
 rw [ma, bs]
 rcases up ha with ⟨i, hi, rfl⟩ | ⟨i, hi, rfl⟩
 ·rw [Bu, ct, rn (by omega), show (2 * (i : Int) + 1) / 2 = i by omega, r64 (by omega) (by omega), FT m i hi, aU hi, bs]
 rw [vt, cf, rn (by omega), show (2 * (i : Int) + 2) / 2 = (i : Int) + 1 by omega, r64 (by omega) (by omega), r64 (by omega) (by omega), show (i : Int) + 1 - 1 = i by omega, uY m i hi, aU hi, bs]
def Whole (m : DMemory) : Prop := ∀ a, aT m a = true → ∀ x ∈ di (bI m a), aT m x = true
theorem Whole.leads {m : DMemory} (h : Whole m) {a : Int} (ha : aT m a = true) : ∀ x ∈ bn (bI m a), aT m x = true := fun x hx => h a ha x (List.mem_append_left _ hx)
theorem Whole.opens {m : DMemory} (h : Whole m) {N : Nat} {live : List Int} {a : Int} (ha : aT m a = true) : ∀ x ∈ bE N (bI m a) live, aT m x = true := fun x hx => by
 unfold bE at hx
 cases hw : gB N (bI m a) with
 | false => rw [hw] at hx; cases hx
 | true =>
  rw [hw] at hx
  obtain ⟨v, hv, hb, rfl⟩ := qH hx
  exact h a ha _ (vK (List.mem_append_right _ hv) hb)
theorem rI (N : Nat) (hN : 5000 < N) {m : DMemory} {roots : List DValue} (hs : Small m roots) (hw : Whole m) (kp : List Int) {met : List Int} {seen : List (Int × Bool)} (h : Mt m met seen) (k : Nat) (hk : k ≤ met.length) :
  Sat (du N ⟨m, kp, met, seen, (k : Int)⟩) fun r => ∃ seen', r = ⟨m, kp, r.met_, seen', (r.met_.length : Int)⟩ ∧ Mt m r.met_ seen' ∧ Thr (D1 N m) met k r.met_ := by
 unfold du
 refine i4 (fun f (s : List Int × List (Int × Bool) × Nat) => minor_meeter_through_l7 N f m.Young m.Old kp s.1 s.2.1 (s.2.2 : Int)) (fun s => 1300 - s.2.2) (fun s => Mt m s.1 s.2.1 ∧ s.2.2 ≤ s.1.length ∧ ∀ r, Thr (D1 N m) s.1 s.2.2 r → Thr (D1 N m) met k r) _ ?_ N (met, seen, k) (by show 1300 - k < N; omega) ⟨h, hk, fun _ h => h⟩
 rintro f ⟨mt, sn, j⟩ ⟨h1, h3, h4⟩ go
 show Sat (minor_meeter_through_l7 N (f + 1) m.Young m.Old kp mt sn (j : Int)) _
 simp only at h1 h3 h4
 have hlen := h1.len hs
 rw [minor_meeter_through_l7.eq_2]
 by_cases hj : j < mt.length
 ·have hh := h1.has _ (List.getElem_mem hj)
  have hsm := hs.at_ mt[j]
  have e1 : bP N ⟨⟨m.Young, m.Old⟩, kp, mt, sn, (j : Int)⟩ mt[j] = some (bI m mt[j]) := mB N hs kp mt sn (j : Int) hh
  have hll := il (bI m mt[j])
  rw [cv (by omega), ct, aU hj, bs, e1, bs, jl N (by omega) _ (by omega) (by omega), bs]
  refine ui N hs (bn (bI m mt[j])) (by omega) (by omega) (fun x hx _ => hw.leads hh x hx) (minor_meeter_through_l31 N (minor_meeter_through_l7 N f) (bn (bI m mt[j]))) (dN N (minor_meeter_through_l7 N f)) (fun _ _ _ _ _ _ _ _ => by rw [minor_meeter_through_l31.eq_2]) kp (j : Int) h1 _ fun sn' h5 => ?_
  unfold dN
  rw [r64 (by omega) (by omega)]
  have hge : mt.length ≤ (cL yB mt (bn (bI m mt[j]))).length := by
   obtain ⟨t, e, -⟩ := eN yB mt (bn (bI m mt[j]))
   rw [e, List.length_append]; omega
  exact go (cL yB mt (bn (bI m mt[j])), sn', j + 1) (by show 1300 - (j + 1) < 1300 - j; omega) ⟨h5, by show j + 1 ≤ (cL yB mt (bn (bI m mt[j]))).length; omega, fun r hr => h4 r (.step (List.getElem?_eq_getElem hj) hr)⟩
 have : j = mt.length := by omega
 subst this
 rw [cp (by omega), cf]
 exact aE ⟨sn, rfl, h1, h4 _ (.done (Nat.le_refl _))⟩
theorem wO (N : Nat) (hN : 5000 < N) {m : DMemory} {roots : List DValue} (hs : Small m roots) (kp : List Int) {met : List Int} {seen : List (Int × Bool)} (nx : Int) (h : Mt m met seen) : el N ⟨m, kp, met, seen, nx⟩ = some (bW m.Old.length ++ met) := by
 apply Sat.eq
 have ho := hs.old
 have hlen := h.len hs
 unfold el
 refine ck (fun k i (s : List Int) => minor_meeter_live_l9 N ⟨m, kp, met, seen, nx⟩ k s (i : Int)) m.Old.length (fun i s => s = bW i) _ ?_ ?_ N 0 [] (by omega) (by omega) rfl
 ·rintro k i s hi rfl go
  show Sat (minor_meeter_live_l9 N ⟨m, kp, met, seen, nx⟩ (k + 1) (bW i) (i : Int)) _
  have hev : (bW i).length = i := by unfold bW; simp
  rw [minor_meeter_live_l9.eq_2, cv (by show (i : Int) < (m.Old.length : Int); omega), ct, r64 (by omega) (by omega), r64 (by omega) (by omega), rF (by simp; omega), r64 (by omega) (by omega)]
  refine go _ ?_
  unfold bW
  rw [List.range_succ, List.map_append]; rfl
 rintro k s rfl
 show Sat (minor_meeter_live_l9 N ⟨m, kp, met, seen, nx⟩ (k + 1) _ _) _
 have hev : (bW m.Old.length).length = m.Old.length := by unfold bW; simp
 rw [minor_meeter_live_l9.eq_2, cp (by show (m.Old.length : Int) ≤ (m.Old.length : Int); omega), cf]
 unfold ij
 dsimp only
 rw [rF (by omega)]
 exact aE rfl
theorem Bc (N : Nat) (a b : List Int) (ha : a.length ≤ 100000) (hb : b.length ≤ 100000) : ja N a b = some (a ++ b) := by
 unfold ja ke lr iv jz
 rw [r64 (by omega) (by omega), cp (a := 0 + (a.length : Int)) (by omega), cf, r64 (by omega) (by omega), cp (a := 0 + (a.length : Int) + (b.length : Int)) (by omega), cf, r64 (by omega) (by omega), r64 (by omega) (by omega), cf]
 by_cases h : 0 < a.length + b.length
 ·rw [cv (by omega), ct, jt ⟨by omega, by omega⟩, bs, rF (by simp; omega), rF (by simp; omega)]; rfl
 rw [cp (by omega), cf, bs, rF (by simp; omega), rF (by simp; omega)]; rfl
theorem BZ (N : Nat) (hN : 5000 < N) {m : DMemory} {roots : List DValue} (hs : Small m roots) (hw : Whole m) (kp : List Int) (hk : ∀ x ∈ kp, aT m x = true) (hkl : kp.length ≤ 1200) {met : List Int} {seen : List (Int × Bool)} (nx : Int) (h : Mt m met seen) :
  Sat (ej N ⟨m, kp, met, seen, nx⟩) fun r => ∃ seen', r = (decide ((met.length : Int) < (r.2.met_.length : Int)), ⟨m, kp, r.2.met_, seen', nx⟩) ∧ Mt m r.2.met_ seen' ∧ r.2.met_ = ms (D1 N m) (bW m.Old.length ++ met) met (kp ++ met) := by
 have hlen := h.len hs
 have ho := hs.old
 have hev : (bW m.Old.length).length = m.Old.length := by unfold bW; simp
 unfold ej
 rw [wO N hN hs kp nx h, bs]
 dsimp only
 rw [Bc N kp met (by omega) (by omega), bs]
 have hL : (bW m.Old.length ++ met).length ≤ 5000 := by rw [List.length_append]; omega
 have hC : (kp ++ met).length ≤ 2400 := by rw [List.length_append]; omega
 generalize hlv : bW m.Old.length ++ met = live at *
 have hcm : ∀ x ∈ kp ++ met, aT m x = true := fun x hx => (List.mem_append.1 hx).elim (hk x) (h.has x)
 generalize hcc : kp ++ met = cs at *
 refine ck (fun k i (s : List Int × List (Int × Bool)) => minor_meeter_open_l21 N ⟨m, kp, met, seen, nx⟩ cs live k (i : Int) m.Young m.Old kp s.1 s.2 nx) cs.length (fun i s => Mt m s.1 s.2 ∧ s.1 = ms (D1 N m) live met (cs.take i)) _ ?_ ?_ N 0 (met, seen) (by omega) (by omega) ⟨h, rfl⟩
 ·rintro k i ⟨mt, sn⟩ hi ⟨h1, h2⟩ go
  simp only at h1 h2
  show Sat (minor_meeter_open_l21 N ⟨m, kp, met, seen, nx⟩ cs live (k + 1) (i : Int) m.Young m.Old kp mt sn nx) _
  have hh := hcm _ (List.getElem_mem hi)
  have hsm := hs.at_ cs[i]
  have e1 : bP N ⟨⟨m.Young, m.Old⟩, kp, mt, sn, nx⟩ cs[i] = some (bI m cs[i]) := mB N hs kp mt sn nx hh
  have hol := wF N (bI m cs[i]) live
  rw [minor_meeter_open_l21.eq_2, cv (by omega), ct, aU hi, bs, e1, bs, wD N hN live (by omega) _ (by omega) (by omega), bs]
  refine ui N hs (bE N (bI m cs[i]) live) (by omega) (by omega) (fun x hx _ => hw.opens hh x hx) (minor_meeter_open_l43 N (minor_meeter_open_l21 N ⟨m, kp, met, seen, nx⟩ cs live k) ⟨m, kp, met, seen, nx⟩ cs (i : Int) (bE N (bI m cs[i]) live) live) (eS N (minor_meeter_open_l21 N ⟨m, kp, met, seen, nx⟩ cs live k) ⟨m, kp, met, seen, nx⟩ cs (i : Int) live) (fun _ _ _ _ _ _ _ _ => by rw [minor_meeter_open_l43.eq_2]) kp nx h1 _ fun sn' h5 => ?_
  unfold eS
  rw [r64 (by omega) (by omega)]
  refine go (cL yB mt (bE N (bI m cs[i]) live), sn') ⟨h5, ?_⟩
  show cL yB mt (bE N (bI m cs[i]) live) = _
  rw [aP hi, yg, ← h2]; rfl
 rintro k ⟨mt, sn⟩ ⟨h1, h2⟩
 simp only [List.take_length] at h1 h2
 show Sat (minor_meeter_open_l21 N ⟨m, kp, met, seen, nx⟩ cs live (k + 1) _ m.Young m.Old kp mt sn nx) _
 rw [minor_meeter_open_l21.eq_2, cp (by omega), cf]
 unfold ii
 exact aE ⟨sn, rfl, h1, h2⟩
def vW (m : DMemory) (roots : List DValue) (kept : List Int) : List Int := bJ roots ++ kept.flatMap fun a => bn (bI m a)
theorem wT (N : Nat) (v : DValue) : gz N v = some (v.N, bj v) := by
 unfold gz
 rw [i5, bs]
theorem DV (N : Nat) (hN : 5000 < N) {m : DMemory} {roots : List DValue} (hs : Small m roots) (hw : Whole m) (hr : ∀ x ∈ bJ roots, aT m x = true) (kept : List Int) (hk : ∀ x ∈ kept, aT m x = true) (hkl : kept.length ≤ 1200) :
  Sat (lc N m roots kept) fun r => ∃ seen nx b, r = ⟨m, kept, r.met_, seen, nx⟩ ∧ Mt m r.met_ seen ∧ IsMinor (D1 N m) (bW m.Old.length) kept (vW m roots kept) b r.met_ := by
 have hrl := hs.roots
 -- the passes
 have passes : ∀ (b : List Int) (seen : List (Int × Bool)), Mt m b seen → Thr (D1 N m) (cL yB [] (vW m roots kept)) 0 b → Sat (minor_all_l104 N N m.Young m.Old kept b seen (b.length : Int)) fun r => ∃ seen nx b, r = ⟨m, kept, r.met_, seen, nx⟩ ∧ Mt m r.met_ seen ∧ IsMinor (D1 N m) (bW m.Old.length) kept (vW m roots kept) b r.met_ := by
  intro b seen h hb
  have h0 := h.len hs
  refine i4 (fun f (s : List Int × List (Int × Bool)) => minor_all_l104 N f m.Young m.Old kept s.1 s.2 (s.1.length : Int)) (fun s => 1300 - s.1.length) (fun s => Mt m s.1 s.2 ∧ ∀ r, MOrd (D1 N m) (bW m.Old.length) kept s.1 r → MOrd (D1 N m) (bW m.Old.length) kept b r) _ ?_ N (b, seen) (by show 1300 - b.length < N; omega) ⟨h, fun _ h => h⟩
  rintro f ⟨mt, sn⟩ ⟨h1, h2⟩ go
  simp only at h1 h2
  show Sat (minor_all_l104 N (f + 1) m.Young m.Old kept mt sn (mt.length : Int)) _
  have hlen := h1.len hs
  obtain ⟨⟨p, x⟩, e0, sn', e1, h3, h4⟩ := BZ N hN hs hw kept hk hkl (mt.length : Int) h1
  simp only at e1 h3 h4
  obtain ⟨e1, e2⟩ := Prod.mk.inj e1
  obtain ⟨t, ht⟩ := oo (D1 N m) (bW m.Old.length ++ mt) mt (kept ++ mt)
  have hlen3 := h3.len hs
  have e0' : ej N ⟨⟨m.Young, m.Old⟩, kept, mt, sn, (mt.length : Int)⟩ = some (p, x) := e0
  rw [minor_all_l104.eq_2, e0', bs]
  dsimp only
  rw [e1]
  generalize hm' : x.met_ = mt' at *
  subst e2
  refine df (fun hlt => ?_) fun hge => ?_
  ·refine Sat.bind (rI N hN hs hw kept h3 mt.length (by rw [h4, ht, List.length_append]; omega)) ?_
   rintro r ⟨sn3, e3, h5, h6⟩
   have hlen5 := h5.len hs
   rw [e3]
   dsimp only
   refine go (r.met_, sn3) ?_ ⟨h5, fun r' hr' => h2 r' (.step ?_ (by rw [← h4]; exact h6) hr')⟩
   ·obtain ⟨t3, e4⟩ := h6.app
    show 1300 - r.met_.length < 1300 - mt.length
    have : mt'.length ≤ r.met_.length := by rw [e4, List.length_append]; omega
    omega
   rw [← h4]; intro e; rw [e] at hlt; omega
  have e : mt' = mt := by
   rw [ht] at h4
   have h0 : t = [] := List.eq_nil_of_length_eq_zero (by rw [h4, List.length_append] at hge; omega)
   rw [h4, h0, List.append_nil]
  subst e
  unfold nP
  exact aE ⟨sn', (mt'.length : Int), b, rfl, h3, ⟨hb, h2 _ (.done h4.symm)⟩⟩
 -- the kept cells
 have keptL : ∀ (row : List Int) (seen : List (Int × Bool)), Mt m row seen → row = cL yB [] (bJ roots) → Sat (minor_all_l51 N kept N 0 m.Young m.Old kept row seen 0) fun r => ∃ seen nx b, r = ⟨m, kept, r.met_, seen, nx⟩ ∧ Mt m r.met_ seen ∧ IsMinor (D1 N m) (bW m.Old.length) kept (vW m roots kept) b r.met_ := by
  intro row seen h hrow
  refine ck (fun k i (s : List Int × List (Int × Bool)) => minor_all_l51 N kept k (i : Int) m.Young m.Old kept s.1 s.2 0) kept.length (fun i s => Mt m s.1 s.2 ∧ s.1 = cL yB [] (bJ roots ++ (kept.take i).flatMap fun a => bn (bI m a))) _ ?_ ?_ N 0 (row, seen) (by omega) (by omega) ⟨h, by simpa using hrow⟩
  ·rintro k i ⟨mt, sn⟩ hi ⟨h1, h2⟩ go
   simp only at h1 h2
   show Sat (minor_all_l51 N kept (k + 1) (i : Int) m.Young m.Old kept mt sn 0) _
   have hh := hk _ (List.getElem_mem hi)
   have hsm := hs.at_ kept[i]
   have e1 : bP N ⟨⟨m.Young, m.Old⟩, kept, mt, sn, 0⟩ kept[i] = some (bI m kept[i]) := mB N hs kept mt sn 0 hh
   have hll := il (bI m kept[i])
   rw [minor_all_l51.eq_2, cv (by omega), ct, aU hi, bs, e1, bs, jl N (by omega) _ (by omega) (by omega), bs]
   refine ui N hs (bn (bI m kept[i])) (by omega) (by omega) (fun x hx _ => hw.leads hh x hx) (minor_all_l73 N (minor_all_l51 N kept k) kept (i : Int) (bn (bI m kept[i]))) (kL N (minor_all_l51 N kept k) kept (i : Int)) (fun _ _ _ _ _ _ _ _ => by rw [minor_all_l73.eq_2]) kept 0 h1 _ fun sn' h5 => ?_
   unfold kL
   rw [r64 (by omega) (by omega)]
   refine go (cL yB mt (bn (bI m kept[i])), sn') ⟨h5, ?_⟩
   show cL yB mt (bn (bI m kept[i])) = _
   rw [aP hi, List.flatMap_append, ← List.append_assoc, mD, ← h2]; simp
  rintro k ⟨mt, sn⟩ ⟨h1, h2⟩
  simp only [List.take_length] at h1 h2
  show Sat (minor_all_l51 N kept (k + 1) _ m.Young m.Old kept mt sn 0) _
  rw [minor_all_l51.eq_2, cp (by omega), cf]
  unfold nQ
  refine Sat.bind (rI N hN hs hw kept h1 0 (Nat.zero_le _)) ?_
  rintro r ⟨sn3, e3, h5, h6⟩
  rw [e3]
  dsimp only
  exact passes r.met_ sn3 h5 (by rw [h2] at h6; exact h6)
 -- the roots
 unfold lc
 refine ck (fun k i (s : List Int × List (Int × Bool)) => minor_all_l15 N roots kept k (i : Int) m.Young m.Old kept s.1 s.2 0) roots.length (fun i s => Mt m s.1 s.2 ∧ s.1 = cL yB [] (bJ (roots.take i))) _ ?_ ?_ N 0 ([], []) (by omega) (by omega) ⟨Mt.nil m, rfl⟩
 ·rintro k i ⟨mt, sn⟩ hi ⟨h1, h2⟩ go
  simp only at h1 h2
  show Sat (minor_all_l15 N roots kept (k + 1) (i : Int) m.Young m.Old kept mt sn 0) _
  have hnext : cL yB [] (bJ (roots.take (i + 1))) = cL yB mt (bJ [roots[i]]) := by
   rw [aP hi, qV, mD, ← h2]
  rw [minor_all_l15.eq_2, cv (by omega), ct, aU hi, bs, wT, bs]
  dsimp only
  unfold kM
  cases hb : bj roots[i]
  ·rw [cf, r64 (by omega) (by omega)]
   refine go (mt, sn) ⟨h1, ?_⟩
   show mt = _
   rw [hnext]; simp [bJ, hb, cL]
  rw [ct]
  have hroot : aT m roots[i].N = true := hr _ (lZ.2 ⟨_, List.getElem_mem _, hb, rfl⟩)
  obtain ⟨sn', e1, e2⟩ := yo N hs kept 0 h1 roots[i].N fun _ => hroot
  have e1' : bY N ⟨⟨m.Young, m.Old⟩, kept, mt, sn, 0⟩ roots[i].N = _ := e1
  rw [e1', bs]
  dsimp only
  rw [r64 (by omega) (by omega)]
  refine go (cL yB mt [roots[i].N], sn') ⟨e2, ?_⟩
  show cL yB mt [roots[i].N] = _
  rw [hnext]; simp [bJ, hb]
 rintro k ⟨mt, sn⟩ ⟨h1, h2⟩
 simp only [List.take_length] at h1 h2
 show Sat (minor_all_l15 N roots kept (k + 1) _ m.Young m.Old kept mt sn 0) _
 rw [minor_all_l15.eq_2, cp (by omega), cf]
 unfold oV
 exact keptL mt sn h1 h2
def wI (m : DMemory) (kept : List Int) : Bool := (List.range m.Old.length).all fun i => !(di (bI m (2 * (i : Int) + 2))).any yB || decide ((2 * (i : Int) + 2) ∈ kept)
def mE (m : DMemory) (kept : List Int) : Bool := kept.all (fun a => !yB a && aT m a) && decide (kept.Pairwise (· < ·))
def tV (N : Nat) (m : DMemory) : Bool := (m.Young ++ m.Old).all (jw N m)
def zv (N : Nat) (m : DMemory) (roots : List DValue) (kept : List Int) : Bool := dl m (bJ roots) && tV N m && mE m kept && wI m kept
theorem uO (N : Nat) (hN : 2000 < N) (c : DCell) (hS : c.Slots.length ≤ 600) (hM : c.More.length ≤ 600) : fh N c = some (di c) := by
 have h1 := il c
 have h2 := kV c
 unfold fh
 rw [jl N hN c (by omega) (by omega), bs, ng N hN c (by omega) (by omega), bs, rF (by omega)]; rfl
theorem vJ (N : Nat) (f : Int → Option Bool) (p : Int → Bool) (l : List Int) (hl : l.length < N) (hl2 : l.length ≤ 5000) (hf : ∀ x ∈ l, f x = some (p x)) : bi N l f = some (l.any p) := by
 have key : ∀ k i : Nat, l.length < k + i → i ≤ l.length → Sat (slices_IndexFunc_l3 N f l k (i : Int)) fun r => decide (0 ≤ r) = (l.drop i).any p := by
  intro k
  induction k with
  | zero => intro i h1 h2; omega
  | succ k ih =>
   intro i h1 h2
   rw [slices_IndexFunc_l3.eq_2]
   by_cases hi : i < l.length
   ·have h3 := ih (i + 1) (by omega) hi
    rw [show (((i + 1 : Nat)) : Int) = (i : Int) + 1 by omega] at h3
    rw [cv (by omega), ct, aU hi, bs, List.drop_eq_getElem_cons hi, List.any_cons, hf _ (List.getElem_mem _), bs, r64 (by omega) (by omega)]
    cases p l[i]
    ·exact h3
    exact aE (by rw [decide_eq_true (by omega)]; rfl)
   rw [cp (by omega), cf, List.drop_eq_nil_of_le (by omega)]
   exact aE rfl
 obtain ⟨r, h1, h2⟩ := key N 0 (by omega) (by omega)
 have h1' : slices_IndexFunc_l3 N f l N 0 = some r := h1
 unfold bi eI
 rw [h1', bs, h2]; rfl
theorem Ha (N : Nat) (f : DValue → Option Bool) (p : DValue → Bool) (l : List DValue) (hl : l.length < N) (hl2 : l.length ≤ 5000) (hf : ∀ x ∈ l, f x = some (p x)) : cM N l f = some (l.any p) := by
 have key : ∀ k i : Nat, l.length < k + i → i ≤ l.length → Sat (slices_IndexFunc_Value_l3 N f l k (i : Int)) fun r => decide (0 ≤ r) = (l.drop i).any p := by
  intro k
  induction k with
  | zero => intro i h1 h2; omega
  | succ k ih =>
   intro i h1 h2
   rw [slices_IndexFunc_Value_l3.eq_2]
   by_cases hi : i < l.length
   ·have h3 := ih (i + 1) (by omega) hi
    rw [show (((i + 1 : Nat)) : Int) = (i : Int) + 1 by omega] at h3
    rw [cv (by omega), ct, aU hi, bs, List.drop_eq_getElem_cons hi, List.any_cons, hf _ (List.getElem_mem _), bs, r64 (by omega) (by omega)]
    cases p l[i]
    ·exact h3
    exact aE (by rw [decide_eq_true (by omega)]; rfl)
   rw [cp (by omega), cf, List.drop_eq_nil_of_le (by omega)]
   exact aE rfl
 obtain ⟨r, h1, h2⟩ := key N 0 (by omega) (by omega)
 have h1' : slices_IndexFunc_Value_l3 N f l N 0 = some r := h1
 unfold cM fw
 rw [h1', bs, h2]; rfl
theorem z7 {α : Type} (p : α → Bool) : ∀ l : List α, l.any (fun x => !p x) = !l.all p
 | [] => rfl
 | x :: l => by rw [List.any_cons, List.all_cons, z7 p l]; cases p x <;> rfl
theorem zM (N : Nat) (a b : List DCell) (ha : a.length ≤ 100000) (hb : b.length ≤ 100000) : eY N a b = some (a ++ b) := by
 unfold eY gL gZ eQ gc
 rw [r64 (by omega) (by omega), cp (a := 0 + (a.length : Int)) (by omega), cf, r64 (by omega) (by omega), cp (a := 0 + (a.length : Int) + (b.length : Int)) (by omega), cf, r64 (by omega) (by omega), r64 (by omega) (by omega), cf]
 by_cases h : 0 < a.length + b.length
 ·rw [cv (by omega), ct, jt ⟨by omega, by omega⟩, bs, rF (by simp; omega), rF (by simp; omega)]; rfl
 rw [cp (by omega), cf, bs, rF (by simp; omega), rF (by simp; omega)]; rfl
theorem BB (N : Nat) (hN : 5000 < N) {m : DMemory} {roots : List DValue} (hs : Small m roots) (hw : W64 m) : kK N m = some (tV N m) := by
 have h1 := hs.young; have h2 := hs.old
 unfold kK tV
 rw [zM N _ _ (by omega) (by omega), bs]
 have hl : (m.Young ++ m.Old).length ≤ 1200 := by rw [List.length_append]; omega
 refine qd (fun k i => minor_sound_l8 N (m.Young ++ m.Old) m k i) (m.Young ++ m.Old) _ (fun k i h => ?_) (fun k => ?_) N (by omega)
 ·have hm : (m.Young ++ m.Old)[i] ∈ m.Young ++ m.Old := List.getElem_mem _
  have hc := hs.cells _ hm
  obtain ⟨⟨a1, a2⟩, a3, a4⟩ := qw hs hw hm
  rw [minor_sound_l8.eq_2, cv (by omega), ct, aU h, bs]
  generalize (m.Young ++ m.Old)[i] = c at *
  obtain ⟨b, hb, -⟩ := js N (by omega) c (by omega) (by omega)
  rw [mm N (by omega) _ (by omega) (by omega), hb, bs, uO N (by omega) c hc.1 hc.2, bs, vJ N _ (fun x => !aT m x) (di c) (by unfold di; rw [List.length_append]; omega) (by unfold di; rw [List.length_append]; omega) (fun x hx => by
   unfold kr
   rw [jR N m x ((List.mem_append.1 hx).elim (a2 x) (a4 x)), bs]), z7]
  unfold jw
  rw [hb, r64 (by omega) (by omega)]
  have e : (di c).all (aT m) = (dl m (bn c) && dl m (ga c)) := by unfold di dl; rw [List.all_append]
  rw [e]
  cases b <;> cases dl m (bn c) && dl m (ga c) <;> rfl
 rw [minor_sound_l8.eq_2, cp (by omega), cf]; rfl
theorem ER (l : List Int) : decide (l.Pairwise (· < ·)) = (List.range l.length).all fun i => decide (i = 0) || decide (l.getD (i - 1) 0 < l.getD i 0) := by
 rw [Bool.eq_iff_iff, decide_eq_true_eq, List.all_eq_true]
 constructor
 ·intro h i hi
  rw [List.mem_range] at hi
  by_cases h0 : i = 0
  ·rw [decide_eq_true h0]; rfl
  have := List.pairwise_iff_getElem.1 h (i - 1) i (by omega) hi (by omega)
  rw [decide_eq_true (p := l.getD (i - 1) 0 < l.getD i 0) (by simpa [List.getD, hi, show i - 1 < l.length by omega] using this), Bool.or_true]
 intro h
 refine List.pairwise_iff_getElem.2 fun i j hi hj hij => ?_
 have step : ∀ k, i + k + 1 < l.length → l[i]'hi < l.getD (i + k + 1) 0 := by
  intro k
  induction k with
  | zero =>
   intro hk
   have := h (i + 1) (List.mem_range.2 hk)
   rw [decide_eq_false (p := i + 1 = 0) (by omega), Bool.false_or, decide_eq_true_eq, Nat.add_sub_cancel] at this
   simpa [List.getD, hi] using this
  | succ k ih =>
   intro hk
   have h1 := ih (by omega)
   have := h (i + k + 1 + 1) (List.mem_range.2 (by omega))
   rw [decide_eq_false (p := i + k + 1 + 1 = 0) (by omega), Bool.false_or, decide_eq_true_eq, Nat.add_sub_cancel] at this
   show l[i]'hi < l.getD (i + k + 1 + 1) 0
   omega
 have := step (j - i - 1) (by omega)
 rw [show i + (j - i - 1) + 1 = j by omega] at this
 simpa [List.getD, hj] using this
theorem DT (N : Nat) (hN : 5000 < N) {m : DMemory} {roots : List DValue} (hs : Small m roots) (hw : W64 m) (hr : ∀ v ∈ roots, in64 v.N) (kept : List Int) (hk : kept.length ≤ 5000) (k64 : ∀ x ∈ kept, in64 x) : nv N m roots kept = some (zv N m roots kept) := by
 have h3 := hs.roots
 have ho := hs.old
 -- the old cells
 have olds : gJ N kept m = some (wI m kept) := by
  unfold gJ wI
  have hlr : (List.range m.Old.length).length = m.Old.length := List.length_range
  refine qd (fun k i => minor_may_l25 N m kept k i) (List.range m.Old.length) _ (fun k i h => ?_) (fun k => ?_) N (by omega)
  ·rw [hlr] at h
   have hm : m.Old[i] ∈ m.Young ++ m.Old := List.mem_append_right _ (List.getElem_mem _)
   have hc := hs.cells _ hm
   obtain ⟨⟨a1, a2⟩, a3, a4⟩ := qw hs hw hm
   rw [minor_may_l25.eq_2, cv (by omega), ct, aU h, bs, uO N (by omega) _ hc.1 hc.2, bs, vJ N _ yB (di m.Old[i]) (by unfold di; rw [List.length_append]; omega) (by unfold di; rw [List.length_append]; omega) (fun x _ => ma N x), bs, r64 (a := 2 * (i : Int)) (by omega) (by omega), r64 (a := 2 * (i : Int) + 2) (by omega) (by omega), kS N hN kept hk, bs, r64 (by omega) (by omega), List.getElem_range, uY m i h]
   cases (di m.Old[i]).any yB <;> cases decide ((2 * (i : Int) + 2) ∈ kept) <;> rfl
  rw [hlr, minor_may_l25.eq_2, cp (by omega), cf]; rfl
 -- the kept addresses
 have hkept : minor_may_l11 N kept m N 0 = bif mE m kept then gJ N kept m else some false := by
  have hlr : (List.range kept.length).length = kept.length := List.length_range
  have := lX (fun k i => minor_may_l11 N kept m k i) (List.range kept.length) (fun i => (!yB (kept.getD i 0) && aT m (kept.getD i 0)) && (decide (i = 0) || decide (kept.getD (i - 1) 0 < kept.getD i 0))) (some false) (gJ N kept m) (fun k i h => ?_) (fun k => ?_) N (by omega)
  ·rw [this]
   have e : ((List.range kept.length).all fun i => (!yB (kept.getD i 0) && aT m (kept.getD i 0)) && (decide (i = 0) || decide (kept.getD (i - 1) 0 < kept.getD i 0))) = mE m kept := by
    unfold mE
    rw [ER]
    have e2 : kept.all (fun a => !yB a && aT m a) = (List.range kept.length).all fun i => !yB (kept.getD i 0) && aT m (kept.getD i 0) := by
     rw [Bool.eq_iff_iff, List.all_eq_true, List.all_eq_true]
     constructor
     ·intro h i hi
      rw [List.mem_range] at hi
      have : kept.getD i 0 = kept[i] := by simp [List.getD, hi]
      rw [this]; exact h _ (List.getElem_mem _)
     intro h x hx
     obtain ⟨i, hi, rfl⟩ := List.getElem_of_mem hx
     have := h i (List.mem_range.2 hi)
     rwa [show kept.getD i 0 = kept[i] by simp [List.getD, hi]] at this
    rw [e2]
    induction List.range kept.length with
    | nil => rfl
    | cons a l ih => rw [List.all_cons, List.all_cons, List.all_cons, ih]; cases (!yB (kept.getD a 0) && aT m (kept.getD a 0)) <;> cases (decide (a = 0) || decide (kept.getD (a - 1) 0 < kept.getD a 0)) <;> simp
   rw [e]
  ·rw [hlr] at h
   have hg : kept.getD i 0 = kept[i] := by simp [List.getD, h]
   rw [minor_may_l11.eq_2, cv (by omega), ct, aU h, bs, ma, bs, jR N m _ (k64 _ (List.getElem_mem _)), r64 (a := (i : Int) + 1) (by omega) (by omega), List.getElem_range, hg]
   by_cases h0 : i = 0
   ·subst h0
    rw [cp (a := 0) (b := ((0 : Nat) : Int)) (by omega)]
    cases yB kept[0] <;> cases aT m kept[0] <;> rfl
   have hp : aG kept ((i : Int) - 1) = some (kept.getD (i - 1) 0) := by
    have := aU (xs := kept) (i := i - 1) (by omega)
    rw [show (((i - 1 : Nat)) : Int) = (i : Int) - 1 by omega] at this
    rw [this]; simp [List.getD, show i - 1 < kept.length by omega]
   rw [cv (a := 0) (b := (i : Int)) (by omega), ct, r64 (a := (i : Int) - 1) (by omega) (by omega), hp, decide_eq_false h0]
   simp only [bs]
   by_cases hlt : kept.getD (i - 1) 0 < kept[i]
   ·rw [E8 hlt, decide_eq_true hlt]
    cases yB kept[i] <;> cases aT m kept[i] <;> rfl
   rw [E7 (by omega), decide_eq_false hlt]
   cases yB kept[i] <;> cases aT m kept[i] <;> rfl
  rw [hlr, minor_may_l11.eq_2, cp (by omega), cf]
 have hroots : cM N roots (fun x => jI N x m) = some (!dl m (bJ roots)) := by
  rw [Ha N _ (fun v => !(!bj v || aT m v.N)) roots (by omega) (by omega) (fun v hv => by
   unfold jI
   rw [wT, bs]
   dsimp only
   rw [jR N m _ (hr v hv), bs]
   cases bj v <;> cases aT m v.N <;> rfl), z7]
  unfold dl bJ
  rw [all_map, su]
 unfold nv zv
 rw [hroots, bs, BB N hN hs hw, bs, hkept, olds]
 cases dl m (bJ roots) <;> cases tV N m <;> cases mE m kept <;> rfl
def IH (c : DCell) : DCell := ⟨c.Kind, c.Shape, c.Flags, c.Age, c.Slots.take 20, c.More.take 40⟩
def Ih (l : List DCell) : List DCell := (l.take 40).map IH
def I7 (m : DMemory) : DMemory := ⟨Ih m.Young, Ih m.Old⟩
structure Few20 (m : DMemory) (roots : List DValue) : Prop where
 young : m.Young.length ≤ 40
 old : m.Old.length ≤ 40
 roots : roots.length ≤ 40
 cells : ∀ c ∈ m.Young ++ m.Old, c.Slots.length ≤ 20 ∧ c.More.length ≤ 40
def tw (N : Nat) (m : DMemory) (roots : List DValue) : Bool := dl m (bJ roots) && tV N m
def rH (m : DMemory) (i : Nat) : Bool := (di (bI m (2 * (i : Int) + 2))).any yB
def jQ (m : DMemory) : List Int := ((List.range m.Old.length).filter (rH m)).map fun i : Nat => 2 * (i : Int) + 2
theorem yt {m : DMemory} {x : Int} : x ∈ jQ m ↔ ∃ i : Nat, i < m.Old.length ∧ rH m i = true ∧ x = 2 * (i : Int) + 2 := by
 unfold jQ
 simp only [List.mem_map, List.mem_filter, List.mem_range]
 constructor
 ·rintro ⟨i, ⟨h1, h2⟩, rfl⟩; exact ⟨i, h1, h2, rfl⟩
 rintro ⟨i, h1, h2, rfl⟩; exact ⟨i, ⟨h1, h2⟩, rfl⟩
theorem yu {m : DMemory} : (jQ m).length ≤ m.Old.length := by unfold jQ; rw [List.length_map]; exact Nat.le_trans (List.length_filter_le _ _) (by simp)
theorem yv {m : DMemory} {x : Int} (h : x ∈ jQ m) : aT m x = true ∧ yB x = false := by
 obtain ⟨i, h1, -, rfl⟩ := yt.1 h
 exact ⟨by rw [xa]; exact decide_eq_true h1, vt i⟩
theorem AJ (m : DMemory) : mE m (jQ m) = true := by
 unfold mE
 rw [Bool.and_eq_true, decide_eq_true_eq, List.all_eq_true]
 refine ⟨fun x hx => ?_, ?_⟩
 ·obtain ⟨h1, h2⟩ := yv hx
  rw [h1, h2]; rfl
 unfold jQ
 refine List.Pairwise.map _ (fun a b (h : a < b) => ?_) ((List.pairwise_lt_range).filter _)
 omega
theorem Gi (m : DMemory) : wI m (jQ m) = true := by
 unfold wI
 rw [List.all_eq_true]
 intro i hi
 rw [List.mem_range] at hi
 cases h : (di (bI m (2 * (i : Int) + 2))).any yB
 ·rfl
 have : (2 * (i : Int) + 2) ∈ jQ m := yt.2 ⟨i, hi, h, rfl⟩
 rw [decide_eq_true this]; rfl
theorem DU (N : Nat) (m : DMemory) (roots : List DValue) : zv N m roots (jQ m) = tw N m roots := by
 unfold zv tw
 rw [AJ, Gi, Bool.and_true, Bool.and_true]
theorem ez {n : Nat} {x : Int} : x ∈ bW n ↔ ∃ i : Nat, i < n ∧ x = 2 * (i : Int) + 2 := by
 unfold bW
 simp only [List.mem_map, List.mem_range]
 constructor
 ·rintro ⟨i, h, rfl⟩; exact ⟨i, h, rfl⟩
 rintro ⟨i, h, rfl⟩; exact ⟨i, h, rfl⟩
def IC (n : Nat) : List DValue := (List.range n).map fun i : Nat => (⟨9, 2 * (i : Int) + 2, ⟨#[]⟩⟩ : DValue)
theorem AM {m : DMemory} {a : Int} (h : aT m a = true) (hy : yB a = false) : ∃ i : Nat, i < m.Old.length ∧ a = 2 * (i : Int) + 2 := by
 rcases up h with ⟨i, hi, rfl⟩ | h
 ·rw [Bu] at hy; cases hy
 exact h
theorem BS {N : Nat} {c : DCell} {l : List Int} {x : Int} (h : x ∈ bE N c l) : x ∈ di c := by
 unfold bE at h
 cases hw : gB N c with
 | false => rw [hw] at h; cases h
 | true =>
  rw [hw] at h
  obtain ⟨v, hv, hb, rfl⟩ := qH h
  exact vK (List.mem_append_right _ hv) hb
theorem qg {N : Nat} {m : DMemory} {roots : List DValue} (h : tw N m roots = true) : Whole m ∧ (∀ x ∈ bJ roots, aT m x = true) ∧ ∀ c ∈ m.Young ++ m.Old, jw N m c = true := by
 unfold tw at h
 rw [Bool.and_eq_true] at h
 have h2 : ∀ c ∈ m.Young ++ m.Old, jw N m c = true := fun c hc => jX h.2 hc
 refine ⟨fun a ha x hx => ?_, fun x hx => jX h.1 hx, h2⟩
 have h3 := h2 (bI m a) (by
  unfold aT at ha; unfold bI
  cases hc : dI m a with
  | none => rw [hc] at ha; cases ha
  | some c => exact mU hc)
 unfold jw at h3
 rw [Bool.and_eq_true, Bool.and_eq_true] at h3
 rcases List.mem_append.1 hx with hx | hx
 ·exact jX h3.2.1 hx
 exact jX h3.2.2 hx
def sJ (met to : List Int) (a : Int) : Int := if a ∈ met then to.getD (met.idxOf a) 0 else a
theorem CG {α : Type} {g : α → α} {l : List α} {i : Nat} (h : i < l.length) : aG ((l.take i).map g ++ l.drop i) (i : Int) = some l[i] := by
 have h1 : i < ((l.take i).map g ++ l.drop i).length := by simp; omega
 rw [aU h1]
 congr 1
 rw [List.getElem_append_right (by simp; omega)]
 simp [Nat.min_eq_left (Nat.le_of_lt h)]
theorem CF {α : Type} {g : α → α} {l : List α} {i : Nat} (h : i < l.length) : ((l.take i).map g ++ l.drop i).set i (g l[i]) = (l.take (i + 1)).map g ++ l.drop (i + 1) := by
 rw [aP h, List.drop_eq_getElem_cons h, List.map_append]
 rw [List.set_append, if_neg (by simp; omega)]
 simp [Nat.min_eq_left (Nat.le_of_lt h)]
 rw [List.drop_eq_getElem_cons h]; rfl
theorem sF {α : Type} {g : α → α} {l : List α} {i : Nat} (h : i < l.length) (he : g l[i] = l[i]) : (l.take i).map g ++ l.drop i = (l.take (i + 1)).map g ++ l.drop (i + 1) := by
 rw [aP h, List.drop_eq_getElem_cons h, List.map_append]
 simp [he]
def H3 (kv : List (Int × Int)) (met to : List Int) (i : Nat) : Prop := ∀ x, lk kv x = if x ∈ met.take i then some (sJ met to x) else none
theorem uf {l : List Int} (hn : l.Nodup) {i : Nat} (h : i < l.length) : l.idxOf l[i] = i := by
 have hm : l[i] ∈ l := List.getElem_mem _
 rcases Nat.lt_trichotomy (l.idxOf l[i]) i with h2 | h2 | h2
 ·exact absurd (kO hm) (List.pairwise_iff_getElem.1 (List.nodup_iff_pairwise_ne.1 hn) _ _ (nR hm) h h2)
 ·exact h2
 exact absurd (kO hm).symm (List.pairwise_iff_getElem.1 (List.nodup_iff_pairwise_ne.1 hn) _ _ h (nR hm) h2)
theorem wJ {l : List Int} (hn : l.Nodup) {i : Nat} (h : i < l.length) : l[i] ∉ l.take i := fun hm => by
 obtain ⟨j, hj, e⟩ := List.getElem_of_mem hm
 rw [List.length_take] at hj
 rw [List.getElem_take] at e
 exact absurd e (List.pairwise_iff_getElem.1 (List.nodup_iff_pairwise_ne.1 hn) _ _ (by omega) h (by omega))
theorem uT (N : Nat) (hN : 5000 < N) (c : DCell) (hS : c.Slots.length ≤ 4000) (hM : c.More.length ≤ 4000) (met to : List Int) (hn : met.Nodup) (hl : to.length = met.length) (hml : met.length ≤ 1200) : fu N c met to = some (eM (sJ met to) met c) := by
 apply Sat.eq
 have mv : ∀ (kv : List (Int × Int)), H3 kv met to met.length → ∀ v : DValue, (lk kv v.N).isSome = decide (v.N ∈ met) ∧ (v.N ∈ met → bj v = true → (⟨v.Kind, (lk kv v.N).getD 0, v.S⟩ : DValue) = cu (sJ met to) met v) := fun kv hk v => by
  rw [hk v.N, List.take_length]
  by_cases h : v.N ∈ met
  ·rw [if_pos h, decide_eq_true h]
   refine ⟨rfl, fun _ hb => ?_⟩
   rw [pU hb h]; rfl
  rw [if_neg h, decide_eq_false h]
  exact ⟨rfl, fun h2 => absurd h2 h⟩
 have keep : ∀ v : DValue, (v.N ∉ met ∨ bj v = false) → cu (sJ met to) met v = v := fun v h => by
  unfold cu
  rcases h with h | h
  ·rw [decide_eq_false h, Bool.and_false]; rfl
  rw [h]; rfl
 have copy : f3 N c = some c := by
  unfold f3 eJ
  rw [rF (by simp only [List.length_nil]; omega), rF (by simp only [List.length_nil]; omega)]; rfl
 have body : ∀ kv : List (Int × Int), H3 kv met to met.length → Sat (kT N c kv) fun r => r = eM (sJ met to) met c := by
  intro kv hk
  unfold kT
  rw [copy, bs]
  refine ck (fun k i (s : List DValue) => cell_Moved_l30 N c kv k s (i : Int)) c.Slots.length (fun i s => s = (c.Slots.take i).map (cu (sJ met to) met) ++ c.Slots.drop i) _ ?_ ?_ N 0 c.Slots (by omega) (by omega) (by simp)
  ·rintro k i s hi rfl go
   show Sat (cell_Moved_l30 N c kv (k + 1) _ (i : Int)) _
   obtain ⟨e1, e2⟩ := mv kv hk c.Slots[i]
   rw [cell_Moved_l30.eq_2, cv (by omega), ct, CG hi, bs, e1, lE]
   simp only [bs]
   unfold jW
   rw [r64 (by omega) (by omega), r64 (by omega) (by omega)]
   by_cases hm : c.Slots[i].N ∈ met
   ·rw [decide_eq_true hm, ct, bs]
    cases hb : bj c.Slots[i]
    ·rw [cf]; exact go _ (sF hi (keep _ (.inr hb)))
    rw [ct, e2 hm hb, Int.toNat_natCast]; exact go _ (CF hi)
   rw [decide_eq_false hm, cf, bs, cf]; exact go _ (sF hi (keep _ (.inl hm)))
  rintro k s rfl
  show Sat (cell_Moved_l30 N c kv (k + 1) _ _) _
  rw [cell_Moved_l30.eq_2, cp (by omega), cf, List.take_length, List.drop_length, List.append_nil]
  unfold mR
  refine ck (fun k i (s : List DValue) => cell_Moved_l45 N c kv _ k s (i : Int)) c.More.length (fun i s => s = (c.More.take i).map (cu (sJ met to) met) ++ c.More.drop i) _ ?_ ?_ N 0 c.More (by omega) (by omega) (by simp)
  ·rintro k i s hi rfl go
   show Sat (cell_Moved_l45 N c kv _ (k + 1) _ (i : Int)) _
   obtain ⟨e1, e2⟩ := mv kv hk c.More[i]
   rw [cell_Moved_l45.eq_2, cv (by omega), ct, CG hi, bs, e1, lE]
   simp only [bs]
   unfold jV
   rw [r64 (by omega) (by omega), r64 (by omega) (by omega)]
   by_cases hm : c.More[i].N ∈ met
   ·rw [decide_eq_true hm, ct, bs]
    cases hb : bj c.More[i]
    ·rw [cf]; exact go _ (sF hi (keep _ (.inr hb)))
    rw [ct, e2 hm hb, Int.toNat_natCast]; exact go _ (CF hi)
   rw [decide_eq_false hm, cf, bs, cf]; exact go _ (sF hi (keep _ (.inl hm)))
  rintro k s rfl
  show Sat (cell_Moved_l45 N c kv _ (k + 1) _ _) _
  rw [cell_Moved_l45.eq_2, cp (by omega), cf, List.take_length, List.drop_length, List.append_nil]
  unfold mQ mS
  exact aE rfl
 unfold fu
 refine ck (fun k i (s : List (Int × Int)) => cell_Moved_l10 N met to c k s (i : Int)) met.length (fun i s => H3 s met to i) _ ?_ ?_ N 0 [] (by omega) (by omega) (fun x => rfl)
 ·rintro k i s hi h1 go
  show Sat (cell_Moved_l10 N met to c (k + 1) _ (i : Int)) _
  have hno : lk s met[i] = none := by rw [h1, if_neg (wJ hn hi)]
  have hto : i < to.length := by omega
  rw [cell_Moved_l10.eq_2, cv (by omega), ct, aU hi, bs, hno, Option.isSome_none, cf, cv (by omega), ct, aU hto, bs]
  unfold io
  rw [r64 (by omega) (by omega)]
  refine go _ fun x => ?_
  rw [yp, yp, h1 x, aP hi]
  by_cases e : met[i] = x
  ·subst e
   rw [if_pos rfl, if_pos (List.mem_append_right _ (List.mem_singleton.2 rfl))]
   unfold sJ
   rw [if_pos (List.getElem_mem _), uf hn hi]
   simp [List.getD, hto]
  rw [if_neg e, if_neg e]
  by_cases hx : x ∈ met.take i
  ·rw [if_pos hx, if_pos (List.mem_append_left _ hx)]
  rw [if_neg hx, if_neg fun h2 => (List.mem_append.1 h2).elim hx fun h2 => e (List.mem_singleton.1 h2).symm]
 rintro k s h1
 show Sat (cell_Moved_l10 N met to c (k + 1) _ _) _
 rw [cell_Moved_l10.eq_2, cp (by omega), cf]
 exact body s h1
theorem uM (N : Nat) (hN : 5000 < N) (l : List DValue) (hl2 : l.length ≤ 4000) (met to : List Int) (hn : met.Nodup) (hl : to.length = met.length) (hml : met.length ≤ 1200) : iX N l met to = some (l.map (cu (sJ met to) met)) := by
 unfold iX
 rw [uT N hN _ (by simp) hl2 met to hn hl hml, bs]; rfl
def dJ (m : DMemory) (a : Int) : Bool := decide ((bI m a).Age = 0)
def mr (p : Int → Bool) : List Int → Nat → Nat → List Int
 | [], _, _ => []
 | a :: l, s, o => bif p a then (2 * (s : Int) + 1) :: mr p l (s + 1) o else (2 * (o : Int) + 2) :: mr p l s (o + 1)
theorem yc (p : Int → Bool) (a : Int) (l : List Int) (s o : Nat) : mr p (a :: l) s o = bif p a then (2 * (s : Int) + 1) :: mr p l (s + 1) o else (2 * (o : Int) + 2) :: mr p l s (o + 1) := rfl
theorem sU (p : Int → Bool) : ∀ (l : List Int) (s o : Nat), (mr p l s o).length = l.length
 | [], _, _ => rfl
 | a :: l, s, o => by unfold mr; cases p a <;> simp [sU p l]
theorem sV (p : Int → Bool) : ∀ (l l' : List Int) (s o : Nat), mr p (l ++ l') s o = mr p l s o ++ mr p l' (s + (l.filter p).length) (o + (l.filter fun a => !p a).length)
 | [], _, _, _ => by simp [mr]
 | a :: l, l', s, o => by
  rw [List.cons_append, yc, yc]
  cases h : p a
  ·simp only [cond_false]
   rw [sV p l l']
   simp only [List.filter_cons, h, Bool.not_false, if_true, Bool.false_eq_true, if_false, List.length_cons, List.cons_append]
   rw [Nat.add_right_comm o 1]; rfl
  simp only [cond_true]
  rw [sV p l l']
  simp only [List.filter_cons, h, Bool.not_true, if_true, Bool.false_eq_true, if_false, List.length_cons, List.cons_append]
  rw [Nat.add_right_comm s 1]; rfl
theorem wy (p : Int → Bool) {l : List Int} {i : Nat} (h : i < l.length) (s o : Nat) : (mr p l s o).getD i 0 = bif p l[i] then 2 * ((s + ((l.take i).filter p).length : Nat) : Int) + 1 else 2 * ((o + ((l.take i).filter fun a => !p a).length : Nat) : Int) + 2 := by
 have e : l = l.take i ++ (l[i] :: l.drop (i + 1)) := by rw [← List.drop_eq_getElem_cons h, List.take_append_drop]
 have e2 : mr p l s o = mr p (l.take i) s o ++ mr p (l[i] :: l.drop (i + 1)) (s + ((l.take i).filter p).length) (o + ((l.take i).filter fun a => !p a).length) := by
  rw [← sV, ← e]
 rw [e2]
 have hl : (mr p (l.take i) s o).length = i := by rw [sU, List.length_take]; omega
 unfold List.getD
 rw [List.getElem?_append_right (by omega), hl, Nat.sub_self]
 unfold mr
 cases p l[i] <;> rfl
theorem zr (N : Nat) (hN : 5000 < N) {m : DMemory} {roots : List DValue} (hs : Small m roots) (kp : List Int) {met : List Int} {seen : List (Int × Bool)} (nx : Int) (h : Mt m met seen) : eR N ⟨m, kp, met, seen, nx⟩ = some (mr (dJ m) met 0 m.Old.length) := by
 have hml := h.len hs
 have ho := hs.old
 apply Sat.eq
 unfold eR
 refine ck (fun k i (s : List Int × Nat × Nat) => minor_meeter_places_l9 N ⟨m, kp, met, seen, nx⟩ k s.1 (s.2.1 : Int) (s.2.2 : Int) (i : Int)) met.length (fun i s => s.1 = mr (dJ m) (met.take i) 0 m.Old.length ∧ s.2.1 = ((met.take i).filter (dJ m)).length ∧ s.2.2 = m.Old.length + ((met.take i).filter fun a => !dJ m a).length) _ ?_ ?_ N 0 ([], 0, m.Old.length) (by show met.length < N + 0; omega) (by omega) ⟨rfl, rfl, rfl⟩
 ·rintro k i ⟨s, a, b⟩ hi ⟨h1, h2, h3⟩ go
  simp only at h1 h2 h3
  have l1 : ((met.take i).filter (dJ m)).length ≤ i := Nat.le_trans (List.length_filter_le _ _) (by rw [List.length_take]; omega)
  have l2 : ((met.take i).filter fun a => !dJ m a).length ≤ i := Nat.le_trans (List.length_filter_le _ _) (by rw [List.length_take]; omega)
  have hsl : s.length = i := by rw [h1, sU, List.length_take]; omega
  show Sat (minor_meeter_places_l9 N ⟨m, kp, met, seen, nx⟩ (k + 1) s (a : Int) (b : Int) (i : Int)) _
  have hnext : mr (dJ m) (met.take (i + 1)) 0 m.Old.length = s ++ [bif dJ m met[i] then 2 * (a : Int) + 1 else 2 * (b : Int) + 2] := by
   rw [aP hi, sV, ← h1, Nat.zero_add, ← h2, ← h3]
   unfold mr
   cases dJ m met[i] <;> rfl
  have hf1 : ((met.take (i + 1)).filter (dJ m)).length = a + (bif dJ m met[i] then 1 else 0) := by
   rw [aP hi, List.filter_append, List.length_append, ← h2]
   cases hb : dJ m met[i] <;> simp [hb]
  have hf2 : ((met.take (i + 1)).filter fun a => !dJ m a).length + m.Old.length = b + (bif dJ m met[i] then 0 else 1) := by
   rw [aP hi, List.filter_append, List.length_append, h3]
   cases hb : dJ m met[i] <;> simp [hb] <;> omega
  have hcell := mB N hs kp met seen nx (h.has _ (List.getElem_mem hi))
  rw [minor_meeter_places_l9.eq_2]
  dsimp only
  rw [cv (by omega), ct, aU hi, bs, hcell, bs]
  unfold dZ
  have e : decide ((bI m met[i]).Age = 0) = dJ m met[i] := rfl
  rw [e, r64 (by omega) (by omega), r64 (by omega) (by omega), rF (by simp; omega), r64 (by omega) (by omega), r64 (by omega) (by omega), r64 (by omega) (by omega), r64 (by omega) (by omega), rF (by simp; omega), r64 (by omega) (by omega), r64 (by omega) (by omega)]
  cases hb : dJ m met[i]
  ·rw [hb] at hnext hf1 hf2
   rw [cf]
   exact go (s ++ [2 * (b : Int) + 2], a, b + 1) ⟨hnext.symm, hf1.symm, by show b + 1 = _; simp only [cond_false] at hf2; omega⟩
  rw [hb] at hnext hf1 hf2
  rw [ct]
  exact go (s ++ [2 * (a : Int) + 1], a + 1, b) ⟨hnext.symm, hf1.symm, by show b = _; simp only [cond_true] at hf2; omega⟩
 rintro k ⟨s, a, b⟩ ⟨h1, h2, h3⟩
 simp only [List.take_length] at h1 h2 h3
 show Sat (minor_meeter_places_l9 N ⟨m, kp, met, seen, nx⟩ (k + 1) s (a : Int) (b : Int) _) _
 rw [minor_meeter_places_l9.eq_2]
 dsimp only
 rw [cp (by omega), cf]
 exact aE h1
theorem xp {lv : List Int} : ∀ {l : List DValue}, ka l = true → jp lv l → cq (fun x => decide (x ∈ lv)) l = l
 | [], _, _ => rfl
 | [_], h, _ => by cases h
 | k :: v :: r, h, ha => by
  rw [gq] at h
  simp only [Bool.and_eq_true, decide_eq_true_eq] at h
  have hk : k.N ∈ lv := ha k (by simp) (by unfold bj; rw [h.1.1]; rfl)
  rw [li, decide_eq_true hk, cond_true, xp h.2 fun w hw => ha w (by simp [hw])]; rfl
theorem AH {lv : List Int} (cb : DValue) : ∀ {l : List DValue}, iH l = true → jp lv l → d8 lv l = l ∧ me lv cb l = []
 | [], _, _ => ⟨rfl, rfl⟩
 | [_], h, _ => by cases h
 | [_, _], h, _ => by cases h
 | [_, _, _], h, _ => by cases h
 | t :: a :: k :: s :: r, h, ha => by
  rw [jn] at h
  simp only [Bool.and_eq_true, decide_eq_true_eq] at h
  obtain ⟨⟨⟨h1, -⟩, h3, h4⟩, h5⟩ := h
  obtain ⟨i1, i2⟩ := AH cb h5 fun w hw => ha w (by simp [hw])
  have ht : t.N ∈ lv := ha t (by simp) (by unfold bj; rw [h1]; rfl)
  have hk : (decide (k.Kind = 7) && !decide (k.N ∈ lv)) = false := by
   by_cases hk7 : k.Kind = 7
   ·rw [decide_eq_true (ha k (by simp) (by unfold bj; rw [hk7]; rfl)), Bool.not_true, Bool.and_false]
   rw [decide_eq_false hk7, Bool.false_and]
  rw [oW, Bz, i1, i2, decide_eq_true ht, hk]
  exact ⟨rfl, rfl⟩
theorem CellOk.id {N : Nat} {lv f : List Int} {c : DCell} (h : CellOk N lv f c) (ha : ∀ x ∈ di c, x ∈ lv) : iP N lv c = c ∧ gv lv c = [] := by
 have hin : jp lv c.More := fun v hv hb => ha _ (vK (List.mem_append_right _ hv) hb)
 by_cases h8 : c.Kind = 8
 ·rw [h.clC8 h8, xp (h.ent2 h8) hin]
  exact ⟨rfl, by unfold gv; rw [decide_eq_false (by omega)]; rfl⟩
 by_cases h10 : c.Kind = 10
 ·obtain ⟨-, -, h4⟩ := h.ent4 h10
  obtain ⟨i1, i2⟩ := AH (lv := lv) (c.More.headD jq) h4 fun v hv => hin v (List.mem_of_mem_drop hv)
  rw [CellOk.clC10 h10, i1, List.take_append_drop]
  refine ⟨rfl, ?_⟩
  unfold gv ql
  rw [decide_eq_true h10]
  exact i2
 exact ⟨CellOk.clC0 h8 h10, by unfold gv; rw [decide_eq_false h10]; rfl⟩
theorem uN (N : Nat) (hN : 5000 < N) {lv f : List Int} {c : DCell} (h : CellOk N lv f c) (hl : lv.length ≤ 5000) (gone : List DValue) (hg : gone.length ≤ 10000) : iY N c lv gone = some (iP N lv c, gone ++ gv lv c) := by
 have hlen := (nD N lv c).2
 have hm := h.more
 unfold iY
 by_cases h8 : c.Kind = 8
 ·rw [decide_eq_true h8, ct, sf N hN lv hl c h.slots h.more, h.wm, bs]
  unfold iP gv
  rw [decide_eq_true h8, decide_eq_false (p := c.Kind = 10) (by omega), cond_true, cond_true, cond_false, List.append_nil]
 rw [decide_eq_false h8, cf]
 by_cases h10 : c.Kind = 10
 ·have e1 : iP N lv c = (ql lv c).1 := by unfold iP; rw [decide_eq_false h8, decide_eq_true h10]; rfl
  have e2 : gv lv c = (ql lv c).2 := by unfold gv; rw [decide_eq_true h10]; rfl
  rw [decide_eq_true h10, ct, rM N hN lv hl c h.slots h.more, h.fr, decide_eq_true h10, cond_true, bs, ← e1, ← e2, rF (by omega)]
 rw [decide_eq_false h10, cf, CellOk.clC0 h8 h10]
 unfold gv
 rw [decide_eq_false h10, cond_false, List.append_nil]
structure MinCtx (N : Nat) (m : DMemory) (roots : List DValue) (kept met : List Int) : Prop where
 big : 5000 < N
 small : Small m roots
 w64 : W64 m
 r64 : ∀ v ∈ roots, in64 v.N
 tot : cV (fun a => (bI m a).More.length) (xy m) ≤ 3600
 klen : kept.length ≤ 1200
 may : zv N m roots kept = true
 prog : ∃ seen nx, lc N m roots kept = some ⟨m, kept, met, seen, nx⟩ ∧ Mt m met seen
 isM : ∃ b, IsMinor (D1 N m) (bW m.Old.length) kept (vW m roots kept) b met
theorem uj {N : Nat} {m : DMemory} {roots : List DValue} {kept : List Int} (h : zv N m roots kept = true) : tw N m roots = true ∧ mE m kept = true ∧ wI m kept = true := by
 unfold zv at h
 unfold tw
 simp only [Bool.and_eq_true] at h ⊢
 exact ⟨h.1.1, h.1.2, h.2⟩
theorem wY {m : DMemory} {kept : List Int} (h : mE m kept = true) {a : Int} (ha : a ∈ kept) : aT m a = true ∧ yB a = false := by
 unfold mE at h
 rw [Bool.and_eq_true] at h
 have := jX h.1 ha
 rw [Bool.and_eq_true] at this
 exact ⟨this.2, by cases hy : yB a; rfl; rw [hy] at this; cases this.1⟩
theorem Gm {N : Nat} (hN : 5000 < N) {m : DMemory} {roots : List DValue} (hs : Small m roots) (hw : W64 m) (hr : ∀ v ∈ roots, in64 v.N) (ht : cV (fun a => (bI m a).More.length) (xy m) ≤ 3600) {kept : List Int} (hk : kept.length ≤ 1200) (hm : zv N m roots kept = true) : ∃ met, MinCtx N m roots kept met := by
 obtain ⟨h1, h2, -⟩ := uj hm
 obtain ⟨g1, g2, -⟩ := qg h1
 obtain ⟨r, e, seen, nx, b, e2, h3, h4⟩ := DV N hN hs g1 g2 kept (fun x hx => (wY h2 hx).1) hk
 exact ⟨r.met_, hN, hs, hw, hr, ht, hk, hm, ⟨seen, nx, by rw [e, ← e2], h3⟩, ⟨b, h4⟩⟩
def ed (m : DMemory) (met : List Int) : List Int := bW m.Old.length ++ met
def xB (m : DMemory) (met : List Int) : List Int := mr (dJ m) met 0 m.Old.length
def dy (m : DMemory) (met : List Int) : Int → Int := sJ met (xB m met)
def nC (N : Nat) (m : DMemory) (met : List Int) (a : Int) : DCell := eM (dy m met) met (iP N (ed m met) (bI m a))
def nY (N : Nat) (m : DMemory) (met : List Int) (a : Int) : DCell := ⟨(nC N m met a).Kind, (nC N m met a).Shape, (nC N m met a).Flags, 1, (nC N m met a).Slots, (nC N m met a).More⟩
def gA (N : Nat) (m : DMemory) (met : List Int) : DMemory := ⟨(met.filter (dJ m)).map (nY N m met), (bW m.Old.length).map (nC N m met) ++ (met.filter fun a => !dJ m a).map (nY N m met)⟩
def Hg (m : DMemory) (met : List Int) : List DValue := (ed m met).flatMap fun a => gv (ed m met) (bI m a)
section
variable {N : Nat} {m : DMemory} {roots : List DValue} {kept met : List Int} (h : MinCtx N m roots kept met)
include h
theorem MinCtx.whole : Whole m := (qg (uj h.may).1).1
theorem MinCtx.rootsH : ∀ x ∈ bJ roots, aT m x = true := (qg (uj h.may).1).2.1
theorem MinCtx.mt : met.Nodup ∧ (∀ x ∈ met, yB x = true) ∧ ∀ x ∈ met, aT m x = true := by
 obtain ⟨_, _, -, h2⟩ := h.prog
 exact ⟨h2.nd, h2.yng, h2.has⟩
theorem MinCtx.mlen : met.length ≤ 1200 := by
 obtain ⟨_, _, -, h2⟩ := h.prog
 exact h2.len h.small
theorem MinCtx.f1has {a : Int} (ha : a ∈ ed m met) : aT m a = true := by
 unfold ed at ha
 rcases List.mem_append.1 ha with ha | ha
 ·obtain ⟨i, hi, rfl⟩ := ez.1 ha
  rw [xa]; exact decide_eq_true hi
 exact h.mt.2.2 a ha
theorem MinCtx.keptOf {a : Int} (ha : a ∈ bW m.Old.length) {x : Int} (hx : x ∈ di (bI m a)) (hy : yB x = true) : a ∈ kept := by
 obtain ⟨i, hi, rfl⟩ := ez.1 ha
 have h3 := (uj h.may).2.2
 unfold wI at h3
 have := jX h3 (List.mem_range.2 hi)
 rw [List.any_eq_true.2 ⟨x, hx, hy⟩] at this
 simpa using this
theorem MinCtx.inF {a : Int} (ha : a ∈ ed m met) {x : Int} (hx : aT m x = true) (hyx : yB x = true → x ∈ met) : x ∈ ed m met := by
 have _ := h
 have _ := ha
 unfold ed
 cases hy : yB x with
 | true => exact List.mem_append_right _ (hyx hy)
 | false =>
  obtain ⟨i, hi, rfl⟩ := AM hx hy
  exact List.mem_append_left _ (ez.2 ⟨i, hi, rfl⟩)
theorem MinCtx.cell {a : Int} (ha : a ∈ ed m met) : CellOk N (ed m met) (ed m met) (bI m a) := by
 have hN := h.big
 have hh := h.f1has ha
 have hm := z6 hh
 have hs := h.small.cells _ hm
 obtain ⟨b, hM⟩ := h.isM
 obtain ⟨q1, q2⟩ := hM.closed
 have hf := (qg (uj h.may).1).2.2 _ hm
 refine ⟨by omega, ?_, hs.1, hs.2, fun x hx => ?_, fun x hx => ?_, fun x => Iff.rfl⟩
 ·unfold jw at hf
  rw [oJ N (by omega) _ (by omega) (by omega), Bool.and_eq_true] at hf
  exact hf.1
 ·refine h.inF ha (h.whole.leads hh x hx) fun hy => ?_
  unfold ed at ha
  rcases List.mem_append.1 ha with ha | ha
  ·exact hM.start (List.mem_append_right _ (List.mem_flatMap.2 ⟨a, h.keptOf ha (List.mem_append_left _ hx) hy, hx⟩)) hy
  exact q1 a ha x hx hy
 refine h.inF ha (h.whole.opens hh x hx) fun hy => ?_
 refine q2 a ?_ x hx hy
 unfold ed at ha
 rcases List.mem_append.1 ha with ha | ha
 ·exact List.mem_append_left _ (h.keptOf ha (BS hx) hy)
 exact List.mem_append_right _ ha
theorem MinCtx.old {a : Int} (ha : a ∈ bW m.Old.length) (hk : a ∉ kept) : iP N (ed m met) (bI m a) = bI m a ∧ gv (ed m met) (bI m a) = [] := by
 have hf : a ∈ ed m met := List.mem_append_left _ ha
 refine (h.cell hf).id fun x hx => h.inF hf (h.whole a (h.f1has hf) x hx) fun hy => absurd (h.keptOf ha hx hy) hk
theorem MinCtx.nd : (ed m met).Nodup := by
 unfold ed
 refine List.nodup_append.2 ⟨?_, h.mt.1, fun a ha b hb e => ?_⟩
 ·exact (D4 _).imp fun hab e => by omega
 subst e
 obtain ⟨i, -, rfl⟩ := ez.1 ha
 have := h.mt.2.1 _ hb
 rw [vt] at this; cases this
theorem MinCtx.goneLen : ∀ l : List Int, l.Nodup → (∀ a ∈ l, a ∈ ed m met) → (l.flatMap fun a => gv (ed m met) (bI m a)).length ≤ 3600 := by
 intro l hn hl
 have h1 := pB (fun a => (bI m a).More.length) hn fun a ha => tg (h.f1has (hl a ha))
 have h2 : ∀ l : List Int, (l.flatMap fun a => gv (ed m met) (bI m a)).length ≤ cV (fun a => (bI m a).More.length) l := fun l => by
  induction l with
  | nil => simp [cV]
  | cons a l ih =>
   have := (nD N (ed m met) (bI m a)).2
   rw [List.flatMap_cons, List.length_append, cV]; omega
 have := h2 l
 have := h.tot
 omega
end
end Go.Proofs.YtmbaennilhdieaaGreat
namespace Go.Proofs.YtmbaennilhdieaaGreat
open Go.RowKit
theorem xT {α β : Type} (f : α → List β) {l : List α} {i : Nat} (h : i < l.length) : (l.take (i + 1)).flatMap f = (l.take i).flatMap f ++ f l[i] := by
 rw [aP h, List.flatMap_append, List.flatMap_cons, List.flatMap_nil, List.append_nil]
theorem EC {α β : Type} (f : α → β) {l : List α} {i : Nat} (h : i < l.length) : (l.take (i + 1)).map f = (l.take i).map f ++ [f l[i]] := by
 rw [aP h, List.map_append]; rfl
theorem uB {α : Type} (p : α → Bool) {l : List α} {i : Nat} (h : i < l.length) : (l.take (i + 1)).filter p = (l.take i).filter p ++ (bif p l[i] then [l[i]] else []) := by
 rw [aP h, List.filter_append]
 cases hp : p l[i] <;> simp [hp]
section
variable {N : Nat} {m : DMemory} {roots : List DValue} {kept met : List Int} (h : MinCtx N m roots kept met)
include h
theorem MinCtx.f1len : (ed m met).length ≤ 1800 := by
 have h1 := h.mlen
 have h2 := h.small.old
 unfold ed bW
 rw [List.length_append, List.length_map, List.length_range]; omega
theorem E2 : jc N m roots kept = some (gA N m met, roots.map (cu (dy m met) met), (Hg m met).map (cu (dy m met) met), 0) := by
 have hN := h.big
 have hs := h.small
 have hml := h.mlen
 have ho := hs.old
 have hrl := hs.roots
 have hfl := h.f1len
 obtain ⟨hnd, hyng, hhas⟩ := h.mt
 obtain ⟨seen, nx, hp, hmt⟩ := h.prog
 have hto : (xB m met).length = met.length := sU _ _ _ _
 have hev : (bW m.Old.length).length = m.Old.length := by unfold bW; simp
 obtain ⟨hfine, hkok, -⟩ := uj h.may
 have k64 : ∀ x ∈ kept, in64 x := fun x hx => vz hs (wY hkok hx).1
 have hkl := h.klen
 have hgl : ∀ l : List Int, l.Nodup → (∀ a ∈ l, a ∈ ed m met) → (l.flatMap fun a => gv (ed m met) (bI m a)).length ≤ 3600 := h.goneLen
 have tk : ∀ i, ((bW m.Old.length).take i).flatMap (fun a => gv (ed m met) (bI m a)) = ((bW m.Old.length).take i).flatMap fun a => gv (ed m met) (bI m a) := fun i => rfl
 have g1 : ∀ i, (((bW m.Old.length).take i).flatMap fun a => gv (ed m met) (bI m a)).length ≤ 3600 := fun i => hgl _ (List.Nodup.sublist (List.take_sublist _ _) (List.nodup_append.1 h.nd).1) fun a ha => List.mem_append_left _ (List.mem_of_mem_take ha)
 have g2 : ∀ i, ((bW m.Old.length ++ met.take i).flatMap fun a => gv (ed m met) (bI m a)).length ≤ 3600 := fun i => hgl _ (List.Nodup.sublist (List.Sublist.append (List.Sublist.refl _) (List.take_sublist i met)) h.nd) fun a ha => (List.mem_append.1 ha).elim (fun h => List.mem_append_left _ h) fun h => List.mem_append_right _ (List.mem_of_mem_take h)
 have moved : ∀ a ∈ ed m met, ∀ d : DCell, d.Slots.length ≤ 600 → d.More.length ≤ 600 → fu N d met (xB m met) = some (eM (dy m met) met d) := fun a _ d h1 h2 => uT N hN d (by omega) (by omega) met (xB m met) hnd hto hml
 -- the young cells
 have young : ∀ O : List DCell, O.length ≤ 600 → Sat (minor_Collect_l71 N ⟨m, kept, met, seen, nx⟩ roots (xB m met) (ed m met) N ((bW m.Old.length).flatMap fun a => gv (ed m met) (bI m a)) 0 [] O) fun r => r = (⟨(met.filter (dJ m)).map (nY N m met), O ++ (met.filter fun a => !dJ m a).map (nY N m met)⟩, roots.map (cu (dy m met) met), (Hg m met).map (cu (dy m met) met), 0) := by
  intro O hO
  refine ck (fun k i (s : List DValue × List DCell × List DCell) => minor_Collect_l71 N ⟨m, kept, met, seen, nx⟩ roots (xB m met) (ed m met) k s.1 (i : Int) s.2.1 s.2.2) met.length (fun i s => s.1 = (bW m.Old.length ++ met.take i).flatMap (fun a => gv (ed m met) (bI m a)) ∧ s.2.1 = ((met.take i).filter (dJ m)).map (nY N m met) ∧ s.2.2 = O ++ ((met.take i).filter fun a => !dJ m a).map (nY N m met)) _ ?_ ?_ N 0 (_, [], O) (by omega) (by omega) ⟨by rw [List.take_zero, List.append_nil]; rfl, rfl, by simp⟩
  ·rintro k i ⟨g, Y, Q⟩ hi ⟨h1, h2, h3⟩ go
   simp only at h1 h2 h3
   show Sat (minor_Collect_l71 N ⟨m, kept, met, seen, nx⟩ roots (xB m met) (ed m met) (k + 1) g (i : Int) Y Q) _
   have hgm : met[i] ∈ met := List.getElem_mem hi
   have hgf : met[i] ∈ ed m met := List.mem_append_right _ hgm
   have hc := h.cell hgf
   have hcl := nD N (ed m met) (bI m met[i])
   have hc1 := hc.slots
   have hc2 := hc.more
   have hgt : g.length ≤ 3600 := by rw [h1]; exact g2 i
   have hYl : Y.length ≤ i := by rw [h2, List.length_map]; exact Nat.le_trans (List.length_filter_le _ _) (by rw [List.length_take]; omega)
   have hQl : Q.length ≤ 600 + i := by
    rw [h3, List.length_append, List.length_map]
    have := List.length_filter_le (fun a => !dJ m a) (met.take i)
    rw [List.length_take] at this; omega
   have hti : i < (xB m met).length := by omega
   have htv : (xB m met)[i] = bif dJ m met[i] then 2 * ((0 + ((met.take i).filter (dJ m)).length : Nat) : Int) + 1 else 2 * ((m.Old.length + ((met.take i).filter fun a => !dJ m a).length : Nat) : Int) + 2 := by
    have := wy (dJ m) hi 0 m.Old.length
    unfold List.getD at this
    have e : (mr (dJ m) met 0 m.Old.length)[i]? = some (xB m met)[i] := List.getElem?_eq_getElem hti
    rw [e] at this
    exact this
   have hyt : yB (xB m met)[i] = dJ m met[i] := by
    rw [htv]
    cases dJ m met[i]
    ·exact vt _
    exact Bu _
   rw [minor_Collect_l71.eq_2]
   dsimp only
   rw [cv (by omega), ct, aU hi, bs, mB N hs kept met seen nx (h.f1has hgf), bs, uN N hN hc (by omega) g (by omega), bs]
   dsimp only
   rw [moved _ hgf _ (by omega) (by omega), bs, aU hti, bs, ma, bs, hyt]
   unfold gV
   rw [r64 (by omega) (by omega), r64 (by omega) (by omega), rF (by simp; omega), rF (by simp; omega)]
   have hg' : g ++ gv (ed m met) (bI m met[i]) = (bW m.Old.length ++ met.take (i + 1)).flatMap fun a => gv (ed m met) (bI m a) := by
    rw [h1, List.flatMap_append, List.flatMap_append, xT _ hi, List.append_assoc]
   have hf1 := uB (dJ m) hi
   have hf2 := uB (fun a => !dJ m a) hi
   cases hb : dJ m met[i]
   ·rw [hb] at hf1
    simp only [hb, Bool.not_false, cond_true, cond_false, List.append_nil] at hf1 hf2
    rw [cf]
    exact go (_, Y, _) ⟨hg', by show Y = _; rw [hf1]; exact h2, by show Q ++ [nY N m met met[i]] = _; rw [hf2, List.map_append, h3, List.append_assoc]; rfl⟩
   rw [hb] at hf1
   simp only [hb, Bool.not_true, cond_true, cond_false, List.append_nil] at hf1 hf2
   rw [ct]
   exact go (_, _, Q) ⟨hg', by show Y ++ [nY N m met met[i]] = _; rw [hf1, List.map_append, h2]; rfl, by show Q = _; rw [hf2]; exact h3⟩
  rintro k ⟨g, Y, Q⟩ ⟨h1, h2, h3⟩
  simp only [List.take_length] at h1 h2 h3
  show Sat (minor_Collect_l71 N ⟨m, kept, met, seen, nx⟩ roots (xB m met) (ed m met) (k + 1) g _ Y Q) _
  have hgt : g.length ≤ 3600 := by rw [h1]; have := g2 met.length; rwa [List.take_length] at this
  rw [minor_Collect_l71.eq_2]
  dsimp only
  rw [cp (by omega), cf]
  unfold jJ
  dsimp only
  rw [uM N hN roots (by omega) met (xB m met) hnd hto hml, bs, uM N hN g (by omega) met (xB m met) hnd hto hml, bs, h2, h3]
  refine aE ?_
  rw [h1]; rfl
 apply Sat.eq
 unfold jc
 rw [DT N hN hs h.w64 h.r64 kept (by omega) k64, h.may, bs, nt, cf, hp, bs, zr N hN hs kept nx hmt, bs, wO N hN hs kept nx hmt, bs]
 refine ck (fun k i (s : List DValue × List DCell) => minor_Collect_l28 N m roots kept (xB m met) ⟨m, kept, met, seen, nx⟩ k s.1 (ed m met) (i : Int) s.2) m.Old.length (fun i s => s.1 = ((bW m.Old.length).take i).flatMap (fun a => gv (ed m met) (bI m a)) ∧ s.2 = ((bW m.Old.length).take i).map (nC N m met)) _ ?_ ?_ N 0 ([], []) (by omega) (by omega) ⟨rfl, rfl⟩
 ·rintro k i ⟨g, O⟩ hi ⟨h1, h2⟩ go
  simp only at h1 h2
  show Sat (minor_Collect_l28 N m roots kept (xB m met) ⟨m, kept, met, seen, nx⟩ (k + 1) g (ed m met) (i : Int) O) _
  have hie : i < (bW m.Old.length).length := by omega
  have hei : (bW m.Old.length)[i] = 2 * (i : Int) + 2 := yC hie
  have hae : (2 * (i : Int) + 2) ∈ bW m.Old.length := ez.2 ⟨i, hi, rfl⟩
  have haf : (2 * (i : Int) + 2) ∈ ed m met := List.mem_append_left _ hae
  have hc := h.cell haf
  have hcl := nD N (ed m met) (bI m (2 * (i : Int) + 2))
  have hc1 := hc.slots
  have hc2 := hc.more
  have hgt : g.length ≤ 3600 := by rw [h1]; exact g1 i
  have hOl : O.length ≤ i := by rw [h2, List.length_map, List.length_take]; omega
  have hold := h.old hae
  have n1 : ((bW m.Old.length).take (i + 1)).flatMap (fun a => gv (ed m met) (bI m a)) = g ++ gv (ed m met) (bI m (2 * (i : Int) + 2)) := by rw [xT _ hie, hei, h1]
  have n2 : ((bW m.Old.length).take (i + 1)).map (nC N m met) = O ++ [nC N m met (2 * (i : Int) + 2)] := by rw [EC _ hie, hei, h2]
  rw [uY m i hi] at hc hcl hc1 hc2 hold n1
  have hnc : nC N m met (2 * (i : Int) + 2) = eM (dy m met) met (iP N (ed m met) m.Old[i]) := by unfold nC; rw [uY m i hi]
  have body : ∀ (kb : List DValue → List Int → Int → List DCell → Option (DMemory × List DValue × List DValue × Int)) (g' : List DValue) (d : DCell), d.Slots.length ≤ 600 → d.More.length ≤ 600 → fi N kb m (i : Int) roots kept (xB m met) (ed m met) O ⟨m, kept, met, seen, nx⟩ g' d.Kind d.Shape d.Flags d.Age d.Slots d.More = kb g' (ed m met) ((i : Int) + 1) (O ++ [eM (dy m met) met d]) := by
   intro kb g' d d1 d2
   have := moved _ haf d d1 d2
   unfold fi
   dsimp only
   have e : fu N ⟨d.Kind, d.Shape, d.Flags, d.Age, d.Slots, d.More⟩ met (xB m met) = some (eM (dy m met) met d) := this
   rw [e, bs, rF (by simp; omega), r64 (by omega) (by omega)]
  rw [minor_Collect_l28.eq_2, cv (by omega), ct, aU hi, bs, r64 (by omega) (by omega), r64 (by omega) (by omega), kS N hN kept (by omega), bs]
  by_cases hk : (2 * (i : Int) + 2) ∈ kept
  ·rw [decide_eq_true hk, ct, uN N hN hc (by omega) g (by omega), bs]
   dsimp only
   rw [body _ _ _ (by omega) (by omega)]
   exact go (_, _) ⟨n1.symm, by rw [n2, hnc]⟩
  obtain ⟨o1, o2⟩ := hold hk
  rw [decide_eq_false hk, cf, body _ _ _ (by omega) (by omega)]
  exact go (g, _) ⟨by rw [n1, o2, List.append_nil], by rw [n2, hnc, o1]⟩
 rintro k ⟨g, O⟩ ⟨h1, h2⟩
 have etl : (bW m.Old.length).take m.Old.length = bW m.Old.length := List.take_of_length_le (by omega)
 simp only [etl] at h1 h2
 show Sat (minor_Collect_l28 N m roots kept (xB m met) ⟨m, kept, met, seen, nx⟩ (k + 1) g (ed m met) _ O) _
 rw [minor_Collect_l28.eq_2, cp (by omega), cf]
 unfold jK
 rw [h1]
 have hOl : O.length ≤ 600 := by rw [h2, List.length_map]; omega
 have := young O hOl
 rw [h2] at this ⊢
 exact this
end
end Go.Proofs.YtmbaennilhdieaaGreat
namespace Go.Proofs.YtmbaennilhdieaaGreat
open Go.RowKit
theorem CX : ∀ {A B : List Int} {x : Int}, x ∉ A → (A ++ x :: B).idxOf x = A.length
 | [], B, x, _ => by simp
 | a :: A, B, x, h => by
  have h1 : a ≠ x := fun e => h (by simp [e])
  rw [List.cons_append, List.idxOf_cons, CX fun hx => h (by simp [hx])]
  have : (a == x) = false := beq_eq_false_iff_ne.2 h1
  rw [this]; rfl
theorem AR {l : List Int} (hn : l.Nodup) (p : Int → Bool) {i : Nat} (h : i < l.length) (hp : p l[i] = true) : (l.filter p).idxOf l[i] = ((l.take i).filter p).length := by
 have e : l.filter p = (l.take i).filter p ++ l[i] :: (l.drop (i + 1)).filter p := by
  have e1 : l = l.take i ++ (l[i] :: l.drop (i + 1)) := by rw [← List.drop_eq_getElem_cons h, List.take_append_drop]
  have e2 : l.filter p = (l.take i).filter p ++ (l[i] :: l.drop (i + 1)).filter p := by rw [← List.filter_append, ← e1]
  rw [e2, List.filter_cons, hp, if_pos rfl]
 rw [e]
 exact CX fun hm => wJ hn h (List.mem_filter.1 hm).1
def ib (c : DCell) (g : Int) : DCell := ⟨c.Kind, c.Shape, c.Flags, g, c.Slots, c.More⟩
theorem zi {c : DCell} (h : ea c = true) : ea (ib c 1) = true := by
 unfold ea at h ⊢
 unfold ib
 simp only [Bool.and_eq_true] at h ⊢
 obtain ⟨⟨⟨⟨⟨⟨⟨h1, h2⟩, h3⟩, h4⟩, h5⟩, -⟩, -⟩, h8⟩ := h
 exact ⟨⟨⟨⟨⟨⟨⟨h1, h2⟩, h3⟩, h4⟩, h5⟩, rfl⟩, rfl⟩, h8⟩
structure VCell (N : Nat) (c : DCell) : Prop where
 big : 2000 < N
 right : ea c = true
 slots : c.Slots.length ≤ 600
 more : c.More.length ≤ 600
theorem xw {N : Nat} {c : DCell} {g : Int} (h : VCell N c) (h2 : VCell N (ib c g)) : bx N (ib c g) = ib (bx N c) g := by
 unfold bx
 rw [kx h.big h.right h.slots h.more, kx h2.big h2.right h2.slots h2.more]
 show (bif decide (c.Kind = 10) then _ else _) = _
 cases decide (c.Kind = 10) <;> rfl
theorem Ez {N : Nat} {c : DCell} {g : Int} (h : VCell N c) (h2 : VCell N (ib c g)) : gB N (bx N (ib c g)) = gB N (bx N c) := by
 have k : ∀ c : DCell, (bx N c).Kind = c.Kind := fun c => by unfold bx; cases lf N c <;> rfl
 have k2 : ∀ c : DCell, VCell N c → c.Kind = 8 → bx N c = c := fun c h h8 => by
  unfold bx
  rw [kx h.big h.right h.slots h.more, decide_eq_false (by omega)]; rfl
 by_cases h8 : c.Kind = 8
 ·rw [k2 c h h8, k2 _ h2 h8, mF h.big h.right h.slots h.more, mF h2.big h2.right h2.slots h2.more]; rfl
 unfold gB
 rw [k, k]
 have e : (ib c g).Kind = c.Kind := rfl
 rw [e, decide_eq_false h8, Bool.false_and, Bool.false_and]
theorem DM {N : Nat} {c : DCell} {g : Int} (h : VCell N c) (h2 : VCell N (ib c g)) (row : List Int) : bE N (bx N (ib c g)) row = bE N (bx N c) row := by
 unfold bE
 rw [Ez h h2, xw h h2]; rfl
theorem Ee {N : Nat} {c : DCell} {g : Int} (h : VCell N c) (h2 : VCell N (ib c g)) (A : List Int) : bR N A (bx N (ib c g)) = ib (bR N A (bx N c)) g := by
 unfold bR
 rw [Ez h h2, xw h h2]
 cases gB N (bx N c) <;> rfl
theorem FU (m : DMemory) {i : Nat} {c : DCell} (h : m.Old[i]? = some c) : aT m (2 * (i : Int) + 2) = true ∧ bI m (2 * (i : Int) + 2) = c := by
 obtain ⟨h1, h2⟩ := List.getElem?_eq_some_iff.1 h
 exact ⟨by rw [xa]; exact decide_eq_true h1, by rw [uY m i h1]; exact h2⟩
theorem HY (m : DMemory) {i : Nat} {c : DCell} (h : m.Young[i]? = some c) : aT m (2 * (i : Int) + 1) = true ∧ bI m (2 * (i : Int) + 1) = c := by
 obtain ⟨h1, h2⟩ := List.getElem?_eq_some_iff.1 h
 exact ⟨by rw [Fa]; exact decide_eq_true h1, by rw [FT m i h1]; exact h2⟩
theorem AL {f : List Int} {a : Int} (h : a ∈ f) : f[f.idxOf a]? = some a := List.getElem?_eq_some_iff.2 ⟨nR h, kO h⟩
section
variable {N : Nat} {m : DMemory} {roots : List DValue} {kept met : List Int} (h : MinCtx N m roots kept met)
include h
theorem MinCtx.rhoE {a : Int} (ha : a ∈ bW m.Old.length) : dy m met a = a := by
 have hn : a ∉ met := fun hm => (List.nodup_append.1 h.nd).2.2 a ha a hm rfl
 unfold dy sJ
 rw [if_neg hn]
theorem MinCtx.rhoY {a : Int} (ha : a ∈ met) (hp : dJ m a = true) : dy m met a = 2 * (((met.filter (dJ m)).idxOf a : Nat) : Int) + 1 := by
 obtain ⟨i, hi, rfl⟩ := List.getElem_of_mem ha
 unfold dy sJ xB
 rw [if_pos ha, uf h.mt.1 hi, wy _ hi, hp, AR h.mt.1 _ hi hp, cond_true, Nat.zero_add]
theorem MinCtx.rhoO {a : Int} (ha : a ∈ met) (hp : dJ m a = false) : dy m met a = 2 * ((m.Old.length + (met.filter fun a => !dJ m a).idxOf a : Nat) : Int) + 2 := by
 obtain ⟨i, hi, rfl⟩ := List.getElem_of_mem ha
 unfold dy sJ xB
 rw [if_pos ha, uf h.mt.1 hi, wy _ hi, hp, AR h.mt.1 (fun a => !dJ m a) hi (by rw [hp]; rfl), cond_false]
theorem MinCtx.cases {a : Int} (ha : a ∈ ed m met) : (a ∈ bW m.Old.length ∧ dy m met a = a) ∨ (a ∈ met ∧ dJ m a = true ∧ a ∈ met.filter (dJ m)) ∨ (a ∈ met ∧ dJ m a = false ∧ a ∈ met.filter fun a => !dJ m a) := by
 unfold ed at ha
 rcases List.mem_append.1 ha with ha | ha
 ·exact .inl ⟨ha, h.rhoE ha⟩
 cases hp : dJ m a with
 | true => exact .inr (.inl ⟨ha, rfl, List.mem_filter.2 ⟨ha, hp⟩⟩)
 | false => exact .inr (.inr ⟨ha, rfl, List.mem_filter.2 ⟨ha, by rw [hp]; rfl⟩⟩)
theorem MinCtx.ren : Ren (dy m met) (ed m met) := by
 refine ⟨fun a b ha hb e => ?_, fun a ha => ?_⟩
 ·rcases h.cases ha with ⟨a1, a2⟩ | ⟨a1, a2, a3⟩ | ⟨a1, a2, a3⟩ <;> rcases h.cases hb with ⟨b1, b2⟩ | ⟨b1, b2, b3⟩ | ⟨b1, b2, b3⟩
  ·rw [a2, b2] at e; exact e
  ·obtain ⟨i, -, rfl⟩ := ez.1 a1
   rw [a2, h.rhoY b1 b2] at e; omega
  ·obtain ⟨i, hi, rfl⟩ := ez.1 a1
   rw [a2, h.rhoO b1 b2] at e; omega
  ·obtain ⟨i, -, rfl⟩ := ez.1 b1
   rw [b2, h.rhoY a1 a2] at e; omega
  ·rw [h.rhoY a1 a2, h.rhoY b1 b2] at e
   have e2 : (met.filter (dJ m)).idxOf a = (met.filter (dJ m)).idxOf b := by omega
   rw [← kO a3, ← kO b3]; simp only [e2]
  ·rw [h.rhoY a1 a2, h.rhoO b1 b2] at e; omega
  ·obtain ⟨i, hi, rfl⟩ := ez.1 b1
   rw [b2, h.rhoO a1 a2] at e; omega
  ·rw [h.rhoO a1 a2, h.rhoY b1 b2] at e; omega
  rw [h.rhoO a1 a2, h.rhoO b1 b2] at e
  have e2 : (met.filter fun a => !dJ m a).idxOf a = (met.filter fun a => !dJ m a).idxOf b := by omega
  rw [← kO a3, ← kO b3]; simp only [e2]
 rcases h.cases ha with ⟨a1, a2⟩ | ⟨a1, a2, a3⟩ | ⟨a1, a2, a3⟩
 ·obtain ⟨i, -, rfl⟩ := ez.1 a1; omega
 ·rw [h.rhoY a1 a2]; omega
 rw [h.rhoO a1 a2]; omega
end
def En (N : Nat) (m : DMemory) (met : List Int) (a : Int) : Int := if a ∈ met then 1 else (nC N m met a).Age
def kc (N : Nat) (m : DMemory) (met : List Int) (a : Int) : DCell := ib (nC N m met a) (En N m met a)
theorem wM {m : DMemory} {met : List Int} (v : DValue) : cu (dy m met) (ed m met) v = cu (dy m met) met v := by
 unfold cu ed
 cases hb : bj v
 ·rfl
 rw [Bool.true_and, Bool.true_and]
 by_cases h : v.N ∈ met
 ·rw [decide_eq_true h, decide_eq_true (List.mem_append_right _ h)]
 rw [decide_eq_false h]
 have e : dy m met v.N = v.N := by unfold dy sJ; rw [if_neg h]
 rw [e]
 cases decide (v.N ∈ bW m.Old.length ++ met) <;> rfl
theorem wN {m : DMemory} {met : List Int} (c : DCell) : eM (dy m met) met c = eM (dy m met) (ed m met) c := by
 unfold eM
 rw [List.map_congr_left fun v _ => (wM v).symm, List.map_congr_left (l := c.More) fun v _ => (wM v).symm]
section
variable {N : Nat} {m : DMemory} {roots : List DValue} {kept met : List Int} (h : MinCtx N m roots kept met)
include h
theorem MinCtx.cellE {a : Int} (ha : a ∈ bW m.Old.length) : kc N m met a = nC N m met a := by
 have hn : a ∉ met := fun hm => (List.nodup_append.1 h.nd).2.2 a ha a hm rfl
 unfold kc En
 rw [if_neg hn]; rfl
theorem Bh {a : Int} (ha : a ∈ met) : kc N m met a = nY N m met a := by
 have _ := h
 unfold kc En
 rw [if_pos ha]; rfl
theorem MinCtx.at_ {a : Int} (ha : a ∈ ed m met) : aT (gA N m met) (dy m met a) = true ∧ bI (gA N m met) (dy m met a) = kc N m met a := by
 have hev : (bW m.Old.length).length = m.Old.length := by unfold bW; simp
 have hml : ((bW m.Old.length).map (nC N m met)).length = m.Old.length := by rw [List.length_map]; exact hev
 rcases h.cases ha with ⟨a1, a2⟩ | ⟨a1, a2, a3⟩ | ⟨a1, a2, a3⟩
 ·rw [a2, h.cellE a1]
  obtain ⟨i, hi, rfl⟩ := ez.1 a1
  refine FU _ ?_
  show ((bW m.Old.length).map (nC N m met) ++ (met.filter fun a => !dJ m a).map (nY N m met))[i]? = _
  rw [List.getElem?_append_left (by omega), List.getElem?_map, List.getElem?_eq_getElem (by omega : i < (bW m.Old.length).length), yC]; rfl
 ·rw [h.rhoY a1 a2, Bh h a1]
  refine HY _ ?_
  show ((met.filter (dJ m)).map (nY N m met))[_]? = _
  rw [List.getElem?_map, AL a3]; rfl
 rw [h.rhoO a1 a2, Bh h a1]
 refine FU _ ?_
 show ((bW m.Old.length).map (nC N m met) ++ (met.filter fun a => !dJ m a).map (nY N m met))[_]? = _
 rw [List.getElem?_append_right (by omega), hml, Nat.add_sub_cancel_left, List.getElem?_map, AL a3]; rfl
theorem MinCtx.okN {a : Int} (ha : a ∈ ed m met) : VCell N (nC N m met a) ∧ VCell N (kc N m met a) := by
 have hN := h.big
 obtain ⟨g1, g2, g3, -⟩ := CellOk.new h.ren (h.cell ha)
 have e : nC N m met a = eM (dy m met) (ed m met) (iP N (ed m met) (bI m a)) := wN _
 rw [← e] at g1 g2 g3
 refine ⟨⟨by omega, g1, g2, g3⟩, by omega, ?_, g2, g3⟩
 unfold kc En
 by_cases hm : a ∈ met
 ·rw [if_pos hm]; exact zi g1
 rw [if_neg hm]; exact g1
theorem MinCtx.graph : MapG (uP N (cy N m)) (uP N (cy N (gA N m met))) (dy m met) (· ∈ ed m met) := by
 have eC : ∀ a, nC N m met a = eM (dy m met) (ed m met) (iP N (ed m met) (bI m a)) := fun a => wN _
 have hB : ∀ a ∈ ed m met, bI (cy N m) a = bx N (bI m a) := fun a ha => oC N m a (h.f1has ha)
 have hNB : ∀ a ∈ ed m met, bI (cy N (gA N m met)) (dy m met a) = bx N (kc N m met a) := fun a ha => by
  rw [oC N _ _ (h.at_ ha).1, (h.at_ ha).2]
 refine ⟨fun a b ha hb e => h.ren.inj a b ha hb e, fun a ha => ⟨?_, ?_⟩, fun a ha => ?_, fun row a hr ha => ?_⟩
 ·show aT (cy N m) a = true
  rw [jv]; exact h.f1has ha
 ·show aT (cy N (gA N m met)) (dy m met a) = true
  rw [jv]; exact (h.at_ ha).1
 ·show bn (bI (cy N (gA N m met)) (dy m met a)) = (bn (bI (cy N m) a)).map (dy m met) ∧ ∀ x ∈ bn (bI (cy N m) a), x ∈ ed m met
  obtain ⟨o1, o2⟩ := h.okN ha
  rw [hNB a ha, hB a ha]
  have e : bx N (kc N m met a) = ib (bx N (nC N m met a)) (En N m met a) := xw o1 o2
  rw [e]
  show bn (bx N (nC N m met a)) = _ ∧ _
  rw [eC a]
  exact CellOk.leadsG h.ren (h.cell ha)
 show bE N (bI (cy N (gA N m met)) (dy m met a)) (row.map (dy m met)) = (bE N (bI (cy N m) a) row).map (dy m met) ∧ ∀ x ∈ bE N (bI (cy N m) a) row, x ∈ ed m met
 obtain ⟨o1, o2⟩ := h.okN ha
 have e : bE N (bx N (kc N m met a)) (row.map (dy m met)) = bE N (bx N (nC N m met a)) (row.map (dy m met)) := DM o1 o2 _
 rw [hNB a ha, hB a ha, e, eC a]
 exact CellOk.opensG h.ren (h.cell ha) hr
end
end Go.Proofs.YtmbaennilhdieaaGreat
namespace Go.Proofs.YtmbaennilhdieaaGreat
open Go.RowKit
theorem xV {α : Type} (g : α → Nat) (p : α → Bool) : ∀ l : List α, cV g (l.filter p) + cV g (l.filter fun a => !p a) = cV g l
 | [] => rfl
 | a :: l => by
  have ih := xV g p l
  rw [List.filter_cons, List.filter_cons]
  cases h : p a
  ·simp only [Bool.false_eq_true, if_false, Bool.not_false, if_true, cV]; omega
  simp only [Bool.false_eq_true, if_false, Bool.not_true, if_true, cV]; omega
theorem rQ {α : Type} {g h : α → Nat} : ∀ {l : List α}, (∀ x ∈ l, g x = h x) → cV g l = cV h l
 | [], _ => rfl
 | a :: l, hh => by rw [cV, cV, hh a (by simp), rQ fun x hx => hh x (by simp [hx])]
theorem pC {α : Type} : ∀ l : List α, cV (fun _ => 1) l = l.length
 | [] => rfl
 | a :: l => by rw [cV, pC l, List.length_cons]; omega
section
variable {N : Nat} {m : DMemory} {roots : List DValue} {kept met : List Int} (h : MinCtx N m roots kept met)
include h
theorem MinCtx.midSum (g : DCell → Nat) : cV g (gA N m met).Young + cV g (gA N m met).Old = cV (fun a => g (kc N m met a)) (ed m met) := by
 have e1 : cV (fun a => g (kc N m met a)) (bW m.Old.length) = cV (fun a => g (nC N m met a)) (bW m.Old.length) := rQ fun a ha => by rw [h.cellE ha]
 have e2 : cV (fun a => g (kc N m met a)) met = cV (fun a => g (nY N m met a)) met := rQ fun a ha => by rw [Bh h ha]
 have e3 := xV (fun a => g (nY N m met a)) (dJ m) met
 unfold gA ed
 simp only
 rw [pD, pD, kW, kW, kW, e1, e2]
 omega
theorem MinCtx.midLe (g : DCell → Nat) (hg : ∀ a ∈ ed m met, g (kc N m met a) ≤ g (bI m a)) : cV g (gA N m met).Young + cV g (gA N m met).Old ≤ cV g m.Young + cV g m.Old := by
 have h1 := pB (fun a => g (bI m a)) h.nd fun a ha => tg (h.f1has ha)
 have h2 := kW g (bI m) (xy m)
 rw [xx, pD] at h2
 rw [h.midSum]
 have h3 := vu hg
 omega
theorem MinCtx.cellLe {a : Int} (ha : a ∈ ed m met) : (kc N m met a).Slots.length = (bI m a).Slots.length ∧ (kc N m met a).More.length ≤ (bI m a).More.length := by
 have _ := h
 have := nD N (ed m met) (bI m a)
 show ((iP N (ed m met) (bI m a)).Slots.map _).length = _ ∧ ((iP N (ed m met) (bI m a)).More.map _).length ≤ _
 rw [List.length_map, List.length_map]
 omega
theorem MinCtx.midCnt : (gA N m met).Young.length + (gA N m met).Old.length ≤ m.Young.length + m.Old.length := by
 have := h.midLe (fun _ => 1) fun a _ => Nat.le_refl _
 rw [pC, pC, pC, pC] at this
 exact this
theorem MinCtx.midWt : wt (gA N m met).Young + wt (gA N m met).Old ≤ wt m.Young + wt m.Old := by
 have := h.midLe wC fun a ha => by
  have := h.cellLe ha
  unfold wC; omega
 rw [← pw, ← pw, ← pw, ← pw] at this
 exact this
theorem MinCtx.midMem {c : DCell} (hc : c ∈ (gA N m met).Young ++ (gA N m met).Old) : ∃ a ∈ ed m met, c = kc N m met a := by
 unfold gA at hc
 simp only [List.mem_append, List.mem_map, List.mem_filter] at hc
 rcases hc with ⟨a, ⟨h1, -⟩, rfl⟩ | ⟨a, h1, rfl⟩ | ⟨a, ⟨h1, -⟩, rfl⟩
 ·exact ⟨a, List.mem_append_right _ h1, (Bh h h1).symm⟩
 ·exact ⟨a, List.mem_append_left _ h1, (h.cellE h1).symm⟩
 exact ⟨a, List.mem_append_right _ h1, (Bh h h1).symm⟩
theorem MinCtx.root {x : Int} (hx : x ∈ bJ roots) : x ∈ ed m met := by
 have hh := h.rootsH x hx
 obtain ⟨b, hM⟩ := h.isM
 unfold ed
 cases hy : yB x with
 | true => exact List.mem_append_right _ (hM.start (List.mem_append_left _ hx) hy)
 | false =>
  obtain ⟨i, hi, rfl⟩ := AM hh hy
  exact List.mem_append_left _ (ez.2 ⟨i, hi, rfl⟩)
theorem MinCtx.rootIn : jp (ed m met) roots := fun v hv hb => h.root (lZ.2 ⟨v, hv, hb, rfl⟩)
theorem MinCtx.nowE : roots.map (cu (dy m met) met) = roots.map (cu (dy m met) (ed m met)) := by
 have _ := h
 exact List.map_congr_left fun v _ => (wM v).symm
theorem MinCtx.rho64 {a : Int} (ha : a ∈ ed m met) : in64 (dy m met a) := by
 have h1 := h.mlen
 have h2 := h.small.old
 have h3 : ∀ p : Int → Bool, (met.filter p).length ≤ 1200 := fun p => Nat.le_trans (List.length_filter_le _ _) h1
 unfold in64
 rcases h.cases ha with ⟨a1, a2⟩ | ⟨a1, a2, a3⟩ | ⟨a1, a2, a3⟩
 ·obtain ⟨i, hi, rfl⟩ := ez.1 a1
  rw [a2]; omega
 ·have := nR a3
  have := h3 (dJ m)
  rw [h.rhoY a1 a2]; omega
 have := nR a3
 have := h3 fun a => !dJ m a
 rw [h.rhoO a1 a2]; omega
theorem MinCtx.mov64 {v : DValue} (hv : in64 v.N) : in64 (cu (dy m met) (ed m met) v).N := by
 unfold cu
 cases hb : bj v && decide (v.N ∈ ed m met) with
 | false => exact hv
 | true =>
  rw [Bool.and_eq_true, decide_eq_true_eq] at hb
  exact h.rho64 hb.2
theorem MinCtx.now64 : ∀ v ∈ roots.map (cu (dy m met) (ed m met)), in64 v.N := fun v hv => by
 obtain ⟨w, hw, rfl⟩ := List.mem_map.1 hv
 exact h.mov64 (h.r64 w hw)
theorem MinCtx.nCE (a : Int) : nC N m met a = eM (dy m met) (ed m met) (iP N (ed m met) (bI m a)) := by
 have _ := h
 exact wN _
theorem MinCtx.midW : W64 (gA N m met) := fun c hc v hv => by
 obtain ⟨a, ha, rfl⟩ := h.midMem hc
 have hv' : v ∈ (nC N m met a).Slots ++ (nC N m met a).More := hv
 rw [h.nCE] at hv'
 have hv2 : v ∈ ((iP N (ed m met) (bI m a)).Slots ++ (iP N (ed m met) (bI m a)).More).map (cu (dy m met) (ed m met)) := by rw [List.map_append]; exact hv'
 obtain ⟨w, hw, rfl⟩ := List.mem_map.1 hv2
 refine h.mov64 ?_
 rcases C5 hw with hw | rfl
 ·exact h.w64.at_ a w hw
 show in64 0; unfold in64; omega
theorem MinCtx.midS (hcnt : m.Young.length + m.Old.length ≤ 600) (l : List DValue) (hl : l.length ≤ 600) : Small (gA N m met) l := by
 have := h.midCnt
 refine ⟨by omega, by omega, hl, fun c hc => ?_⟩
 obtain ⟨a, ha, rfl⟩ := h.midMem hc
 exact ⟨(h.okN ha).2.slots, (h.okN ha).2.more⟩
theorem MinCtx.newHas {l : List DValue} (hl : jp (ed m met) l) {v : DValue} (hv : v ∈ l.map (cu (dy m met) (ed m met))) (hb : bj v = true) : aT (gA N m met) v.N = true := by
 obtain ⟨w, hw, rfl⟩ := List.mem_map.1 hv
 rw [qK] at hb
 have := hl w hw hb
 rw [pU hb this]
 exact (h.at_ this).1
theorem MinCtx.midAddr {c : DCell} (hc : c ∈ (gA N m met).Young ++ (gA N m met).Old) : ea c = true ∧ ∀ x ∈ di c, aT (gA N m met) x = true := by
 obtain ⟨a, ha, rfl⟩ := h.midMem hc
 refine ⟨(h.okN ha).2.right, fun x hx => ?_⟩
 have hx' : x ∈ di (nC N m met a) := hx
 obtain ⟨v, hv, hb, rfl⟩ := Er hx'
 rw [h.nCE] at hv
 obtain ⟨i1, i2⟩ := (h.cell ha).inC
 rcases List.mem_append.1 hv with hv | hv
 ·exact h.newHas i1 hv hb
 exact h.newHas i2 hv hb
theorem MinCtx.nowHas : ∀ x ∈ bJ (roots.map (cu (dy m met) (ed m met))), aT (gA N m met) x = true := fun x hx => by
 obtain ⟨v, hv, hb, rfl⟩ := lZ.1 hx
 exact h.newHas h.rootIn hv hb
theorem MinCtx.midCheck (hcnt : m.Young.length + m.Old.length ≤ 600) : kC N (gA N m met) (roots.map (cu (dy m met) (ed m met))) = 0 := by
 have hN := h.big
 have hs := h.midS hcnt [] (by simp)
 unfold kC
 have h1 : ((gA N m met).Young ++ (gA N m met).Old).all (kf N) = true := by
  rw [List.all_eq_true]
  intro c hc
  have := hs.cells c hc
  rw [At (by omega) this.1 this.2]; exact (h.midAddr hc).1
 have h2 : dl (gA N m met) (((gA N m met).Young ++ (gA N m met).Old).flatMap di ++ bJ (roots.map (cu (dy m met) (ed m met)))) = true := by
  unfold dl
  rw [List.all_eq_true]
  intro x hx
  rcases List.mem_append.1 hx with hx | hx
  ·obtain ⟨c, hc, hx⟩ := List.mem_flatMap.1 hx
   exact (h.midAddr hc).2 x hx
  exact h.nowHas x hx
 rw [h1, h2]; rfl
theorem MinCtx.alike (hcnt : m.Young.length + m.Old.length ≤ 600) : fx N m roots (gA N m met) (roots.map (cu (dy m met) (ed m met))) = some true := by
 have hN := h.big
 have hsN := h.midS hcnt (roots.map (cu (dy m met) (ed m met))) (by rw [List.length_map]; exact h.small.roots)
 obtain ⟨LA, LB, sA, sB, oA, oB, p1, -⟩ := kD N hN h.small hsN h.w64 h.midW h.r64 h.now64
 obtain ⟨b1, L1, i1, -, -, -, e1⟩ := lW N hN (h.small.bare N) (h.w64.bare N) h.r64
 obtain ⟨b2, L2, i2, -, -, -, e2⟩ := lW N hN (hsN.bare N) (h.midW.bare N) h.now64
 rw [e1] at oA
 rw [e2] at oB
 obtain rfl := Option.some.inj oA
 obtain rfl := Option.some.inj oB
 obtain ⟨i3, hL1⟩ := h.graph.isOrder i1 fun x hx => h.root hx
 rw [uw h.rootIn] at i2
 obtain ⟨-, eL⟩ := i2.det i3
 subst eL
 have hA1 : ∀ x ∈ ed m met, aT (cy N m) x = true := fun x hx => by rw [jv]; exact h.f1has hx
 have hA2 : ∀ x ∈ ed m met, aT (cy N (gA N m met)) (dy m met x) = true := fun x hx => by rw [jv]; exact (h.at_ hx).1
 rw [p1]
 congr 1
 unfold gr
 rw [decide_eq_true (by simp), lY h.ren hL1 hA1 hA2 h.rootIn, ne, Bool.true_and, Bool.true_and, List.all_eq_true]
 intro a ha
 have haf := hL1 a ha
 obtain ⟨o1, o2⟩ := h.okN haf
 simp only
 have ec : bR N (L1.map (dy m met)) (bx N (kc N m met a)) = ib (bR N (L1.map (dy m met)) (bx N (nC N m met a))) (En N m met a) := Ee o1 o2 _
 rw [oC N m a (h.f1has haf), oC N _ _ (h.at_ haf).1, (h.at_ haf).2, ec, h.nCE, CellOk.cleanG h.ren (h.cell haf) hL1]
 obtain ⟨d1, d2⟩ := (h.cell haf).inD hL1
 generalize bR N L1 (bx N (bI m a)) = D at *
 unfold mN eM ib
 simp only
 rw [lY h.ren hL1 hA1 hA2 d1, lY h.ren hL1 hA1 hA2 d2]
 simp only [decide_true, Bool.and_self]
end
theorem tS {α β γ : Type} {p : α × β → Bool} {q : β × γ → Bool} {r : α × γ → Bool} (hh : ∀ a b c, p (a, b) = true → q (b, c) = true → r (a, c) = true) : ∀ {A : List α} {B : List β} {C : List γ}, A.length = B.length → B.length = C.length → (A.zip B).all p = true → (B.zip C).all q = true → (A.zip C).all r = true
 | [], _, _, _, _, _, _ => by simp
 | a :: A, [], _, h, _, _, _ => by simp at h
 | a :: A, b :: B, [], _, h, _, _ => by simp at h
 | a :: A, b :: B, c :: C, h1, h2, h3, h4 => by
  rw [List.zip_cons_cons, List.all_cons, Bool.and_eq_true] at h3 h4 ⊢
  exact ⟨hh a b c h3.1 h4.1, tS hh (by simpa using h1) (by simpa using h2) h3.2 h4.2⟩
theorem Cn {ha hb hc : Int → Bool} {A B C : List Int} {u v w : DValue} (h1 : pu ha hb A B u v = true) (h2 : pu hb hc B C v w = true) : pu ha hc A C u w = true := by
 unfold pu at h1 h2 ⊢
 cases hu : bj u <;> cases hv : bj v <;> cases hw : bj w <;> rw [hu, hv] at h1 <;> rw [hv, hw] at h2 <;> simp only [Bool.not_false, Bool.not_true, Bool.or_self, Bool.or_true, Bool.true_or, cond_true, cond_false, decide_eq_true_eq] at h1 h2 ⊢
 ·exact h1.trans h2
 ·exact absurd hv (by rw [h2, hw]; simp)
 ·exact h1.trans h2
 ·exact absurd hu (by rw [h1, hv]; simp)
 ·exact h1.trans h2
 ·exact absurd hu (by rw [h1, hv]; simp)
 ·exact absurd hv (by rw [h2, hw]; simp)
 simp only [Bool.and_eq_true, decide_eq_true_eq, beq_iff_eq] at h1 h2 ⊢
 obtain ⟨⟨k1, s1⟩, n1⟩ := h1
 obtain ⟨⟨k2, s2⟩, n2⟩ := h2
 refine ⟨⟨k1.trans k2, s1.trans s2⟩, ?_⟩
 by_cases mu : u.N ∈ A <;> by_cases mv : v.N ∈ B <;> by_cases mw : w.N ∈ C <;> simp only [mu, mv, mw, decide_true, decide_false, Bool.not_true, Bool.not_false, Bool.or_self, Bool.or_true, Bool.true_or, Bool.and_true, Bool.true_and, Bool.and_false, Bool.false_and, cond_true, cond_false, Bool.false_eq_true, decide_eq_true_eq, beq_iff_eq] at n1 n2 ⊢
 ·exact n1.trans n2
 exact n1.trans n2
theorem qk {ha hb hc : Int → Bool} {A B C : List Int} {x y z : List DValue} (h1 : iI ha hb A B x y = true) (h2 : iI hb hc B C y z = true) : iI ha hc A C x z = true := by
 unfold iI at h1 h2 ⊢
 rw [Bool.and_eq_true, decide_eq_true_eq] at h1 h2 ⊢
 exact ⟨h1.1.trans h2.1, tS (fun a b c g1 g2 => Cn g1 g2) h1.1 h2.1 h1.2 h2.2⟩
theorem Bb {ha hb hc : Int → Bool} {A B C : List Int} {x y z : DCell} (h1 : mN ha hb A B x y = true) (h2 : mN hb hc B C y z = true) : mN ha hc A C x z = true := by
 unfold mN at h1 h2 ⊢
 simp only [Bool.and_eq_true, decide_eq_true_eq] at h1 h2 ⊢
 obtain ⟨⟨⟨⟨a1, a2⟩, a3⟩, a4⟩, a5⟩ := h1
 obtain ⟨⟨⟨⟨b1, b2⟩, b3⟩, b4⟩, b5⟩ := h2
 exact ⟨⟨⟨⟨a1.trans b1, a2.trans b2⟩, a3.trans b3⟩, qk a4 b4⟩, qk a5 b5⟩
theorem tO {N : Nat} {a b c : DMemory} {x y z : List DValue} {A B C : List Int} (h1 : gr N a x A b y B = true) (h2 : gr N b y B c z C = true) : gr N a x A c z C = true := by
 unfold gr at h1 h2 ⊢
 simp only [Bool.and_eq_true, decide_eq_true_eq] at h1 h2 ⊢
 obtain ⟨⟨a1, a2⟩, a3⟩ := h1
 obtain ⟨⟨b1, b2⟩, b3⟩ := h2
 exact ⟨⟨a1.trans b1, qk a2 b2⟩, tS (fun p q r g1 g2 => Bb g1 g2) a1 b1 a3 b3⟩
end Go.Proofs.YtmbaennilhdieaaGreat
namespace Go.Proofs.YtmbaennilhdieaaGreat
open Go.RowKit
theorem xF (N : Nat) (hN : 5000 < N) (c : DCell) (hS : c.Slots.length ≤ 600) (hM : c.More.length ≤ 600) : jB N c = some ((di c).any yB) := by
 have h1 := il c
 have h2 := kV c
 have hy : ∀ x, ic N x = some (yB x) := fun x => by
  unfold ic yB
  cases decide (0 < x) <;> cases decide (x.tmod 2 = 1) <;> rfl
 unfold jB di
 rw [jl N (by omega) c (by omega) (by omega), ng N (by omega) c (by omega) (by omega), bs, bs, vJ N _ yB (bn c) (by omega) (by omega) (fun x _ => hy x), vJ N _ yB (ga c) (by omega) (by omega) (fun x _ => hy x), bs, bs, List.any_append]
 cases (bn c).any yB <;> cases (ga c).any yB <;> rfl
theorem Ea {L : List (Int × Bool)} {a : Int} (h : a ∉ L.map (·.1)) : AY L a = L := by
 unfold AY
 rcases Fb a L with ⟨i, c, -, h2⟩ | ⟨h1, -⟩
 ·exact absurd (List.mem_map.2 ⟨_, List.mem_of_getElem? h2, rfl⟩) h
 rw [h1]
theorem BL (N : Nat) (hN : 5000 < N) {m : DMemory} {roots : List DValue} (hs : Small m roots) : ∃ kv, eK N ⟨[]⟩ m = some ⟨kv⟩ ∧ kv.map Prod.fst = jQ m := by
 have ho := hs.old
 have key : Sat (eK N ⟨[]⟩ m) fun r => r.at_.map Prod.fst = jQ m := by
  unfold eK jk
  rw [bs]
  refine ck (fun k i (s : List (Int × Bool)) => remset_Set_Renew_l8 N m k (i : Int) s) m.Old.length (fun i s => s.map Prod.fst = ((List.range i).filter (rH m)).map (fun i : Nat => 2 * (i : Int) + 2)) _ ?_ ?_ N 0 [] (by omega) (by omega) rfl
  ·rintro k i s hi h1 go
   show Sat (remset_Set_Renew_l8 N m (k + 1) (i : Int) s) _
   have hc := hs.cells _ (List.mem_append_right m.Young (List.getElem_mem hi))
   have hnext : ((List.range (i + 1)).filter (rH m)).map (fun i : Nat => 2 * (i : Int) + 2) = ((List.range i).filter (rH m)).map (fun i : Nat => 2 * (i : Int) + 2) ++ (bif rH m i then [2 * (i : Int) + 2] else []) := by
    rw [List.range_succ, List.filter_append, List.map_append]
    cases h : rH m i <;> simp [h]
   have hno : (2 * (i : Int) + 2) ∉ s.map Prod.fst := by
    rw [h1]
    intro hm
    obtain ⟨j, hj, e⟩ := List.mem_map.1 hm
    have := List.mem_range.1 (List.mem_filter.1 hj).1
    omega
   have e : (di m.Old[i]).any yB = rH m i := by unfold rH; rw [uY m i hi]
   rw [remset_Set_Renew_l8.eq_2, cv (by omega), ct, aU hi, bs, r64 (by omega) (by omega), r64 (by omega) (by omega)]
   unfold jC iM oL
   rw [xF N hN _ hc.1 hc.2, e, cv (by omega), ct, rm (by omega), lQ (by omega)]
   simp only [bs, nt, cf]
   cases h : rH m i
   ·simp only [nf, ct, bs]
    rw [Ea hno, r64 (by omega) (by omega)]
    exact go s (by rw [hnext, h, h1, cf, List.append_nil])
   simp only [nt, cf, bs]
   rw [r64 (by omega) (by omega)]
   refine go (na s (2 * (i : Int) + 2) true) ?_
   have := Ai s (2 * (i : Int) + 2) true
   rw [if_neg hno] at this
   rw [hnext, h, ct, ← h1]
   exact this
  rintro k s h1
  show Sat (remset_Set_Renew_l8 N m (k + 1) _ s) _
  rw [remset_Set_Renew_l8.eq_2, cp (by omega), cf]
  exact aE h1
 obtain ⟨r, e, h⟩ := key
 exact ⟨r.at_, e, h⟩
theorem AI (m : DMemory) : (jQ m).Pairwise (· < ·) := by
 have := AJ m
 unfold mE at this
 rw [Bool.and_eq_true, decide_eq_true_eq] at this
 exact this.2
theorem BF (N : Nat) {m : DMemory} {roots : List DValue} (hs : Small m roots) {kv : List (Int × Bool)} (h : kv.map Prod.fst = jQ m) : gQ N ⟨kv⟩ = some (jQ m) := by
 have hn : (jQ m).Nodup := (AI m).imp fun hab e => by omega
 have hl := @yu m
 have ho := hs.old
 have hlen : kv.length = (jQ m).length := by rw [← h, List.length_map]
 have e : pg kv = jQ m := by
  have e1 : pg kv = fI (kv.map Prod.fst) := rfl
  rw [e1, h]
  exact sG hn (AI m) fun x => Iff.rfl
 unfold gQ qa lq
 rw [bs, jt ⟨fun k hk => by rw [h] at hk; exact vz hs (yv hk).1, by rw [h]; exact hn, by show cD kv.length; unfold cD; omega⟩, bs, e]
theorem BJ (N : Nat) (m : DMemory) (roots : List DValue) : zk N m roots = tw N m roots := by
 unfold zk tw tV
 rw [List.all_append]
 cases m.Young.all (jw N m) <;> cases m.Old.all (jw N m) <;> cases dl m (bJ roots) <;> rfl
theorem E1 {m : DMemory} : cV (fun a => (bI m a).More.length) (xy m) ≤ wt m.Young + wt m.Old := by
 have h2 := kW (fun c : DCell => c.More.length) (bI m) (xy m)
 rw [xx, pD] at h2
 have h3 : ∀ l : List DCell, cV (fun c : DCell => c.More.length) l ≤ wt l := fun l => by
  rw [pw]
  exact vu fun c _ => by unfold wC; omega
 have := h3 m.Young
 have := h3 m.Old
 omega
theorem Cb {m : DMemory} {roots : List DValue} (hb : Bnd 140737488355328 m roots) (hw : W64 m) (hr : ∀ v ∈ roots, in64 v.N) : iu 6000 m roots = some true := by
 apply Sat.eq
 unfold iu
 refine Sat.bind (Gu 6000 (by decide) hb) fun b hfew => ?_
 cases b with
 | false =>
  rw [nf, ct, bs, ct, qe]
  exact aE rfl
 | true =>
  have h6 := hfew rfl
  have hs := h6.small
  have h66 : roots.length + wt m.Young + wt m.Old ≤ 600 := h6
  rw [nt, cf, BI 6000 (by decide) hs hw hr, BJ, bs, bs]
  cases hf : tw 6000 m roots with
  | false => rw [nf, ct, qe]; exact aE rfl
  | true =>
   rw [nt, cf]
   unfold oM
   obtain ⟨kv, k1, k2⟩ := BL 6000 (by decide) hs
   have hkl := @yu m
   have ho := hs.old
   have hmay : zv 6000 m roots (jQ m) = true := by rw [DU]; exact hf
   obtain ⟨met, h⟩ := Gm (by decide) hs hw hr (by have := @E1 m; omega) (by omega) hmay
   rw [bs, k1, bs, BF 6000 hs k2, bs, E2 h, bs]
   dsimp only
   rw [h.nowE, decide_eq_true (p := (0 : Int) = 0) rfl, nt, cf]
   have hcnt := h6.wtd.cnt
   have hnl : (roots.map (cu (dy m met) (ed m met))).length ≤ 600 := by rw [List.length_map]; exact hs.roots
   have hs2 := h.midS hcnt _ hnl
   have hwt := h.midWt
   have hmc := h.midCnt
   have ht2 : Wtd (gA 6000 m met) (roots.map (cu (dy m met) (ed m met))) := ⟨by rw [List.length_map]; omega, by omega⟩
   obtain ⟨live2, g2, hl2⟩ := CU 6000 (by decide) hs2 h.midW h.now64
   obtain ⟨live1, g1, hl1⟩ := CU 6000 (by decide) hs hw hr
   have hck : kC 6000 m roots = 0 := by
    obtain ⟨q1, q2, q3⟩ := qg hf
    unfold kC
    have e1 : (m.Young ++ m.Old).all (kf 6000) = true := by
     rw [List.all_eq_true]
     intro c hc
     have := q3 c hc
     unfold jw at this
     rw [Bool.and_eq_true] at this
     exact this.1
    have e2 : dl m ((m.Young ++ m.Old).flatMap di ++ bJ roots) = true := by
     unfold dl
     rw [List.all_eq_true]
     intro x hx
     rcases List.mem_append.1 hx with hx | hx
     ·obtain ⟨c, hc, hx⟩ := List.mem_flatMap.1 hx
      have := q3 c hc
      unfold jw at this
      rw [Bool.and_eq_true, Bool.and_eq_true] at this
      rcases List.mem_append.1 hx with hx | hx
      ·exact jX this.2.1 hx
      exact jX this.2.2 hx
     exact q2 x hx
    rw [e1, e2]; rfl
   have c2 := Fw (by decide) hs2 ht2 h.midW h.now64 hl2 (h.midCheck hcnt)
   have c1 := Fw (by decide) hs h6.wtd hw hr hl1 hck
   have p2 := tG 6000 (by decide) hs2 ht2 h.midW h.now64 hl2
   have p1 := tG 6000 (by decide) hs h6.wtd hw hr hl1
   unfold Fz at p1 p2
   rw [lQ (h.midCheck hcnt), cond_true] at p2
   rw [lQ hck, cond_true] at p1
   have p2' : bL 6000 (gA 6000 m met) (roots.map (cu (dy m met) (ed m met))) = some (jE 6000 (gA 6000 m met) live2 g2, (roots.map (cu (dy m met) (ed m met))).map (cu (lT g2) g2), _, 0) := p2
   have p1' : bL 6000 m roots = some (jE 6000 m live1 g1, roots.map (cu (lT g1) g1), _, 0) := p1
   rw [p2', bs, p1', bs]
   dsimp only
   -- the graphs
   have a1 := c1.alike.1
   have a2 := c2.alike.1
   have a3 := h.alike hcnt
   have n1 := c1.nextS _ c1.nowLen
   have n2 := c2.nextS _ c2.nowLen
   obtain ⟨A1, B1, -, -, u1, v1, r1, -⟩ := kD 6000 (by decide) hs n1 hw c1.nextW hr c1.now64
   obtain ⟨A2, B2, -, -, u2, v2, r2, -⟩ := kD 6000 (by decide) hs2 n2 h.midW c2.nextW h.now64 c2.now64
   obtain ⟨A3, B3, -, -, u3, v3, r3, -⟩ := kD 6000 (by decide) hs hs2 hw h.midW hr h.now64
   obtain ⟨A4, B4, -, -, u4, v4, r4, -⟩ := kD 6000 (by decide) n2 n1 c2.nextW c1.nextW c2.now64 c1.now64
   rw [r1] at a1
   rw [r2] at a2
   rw [r3] at a3
   have w1 := Option.some.inj a1
   have w2 := Option.some.inj a2
   have w3 := Option.some.inj a3
   rw [u1] at u3
   obtain rfl := Option.some.inj u3
   rw [u2] at v3
   obtain rfl := Option.some.inj v3
   rw [v2] at u4
   obtain rfl := Option.some.inj u4
   rw [v1] at v4
   obtain rfl := Option.some.inj v4
   rw [Bm] at w2 w3
   have w4 := tO w2 (tO w3 w1)
   rw [decide_eq_true (p := (0 : Int) = 0) rfl, ct, bs, ct, r4, w4, bs, bs, ct, qe, bs, bs]
   exact aE rfl
theorem Ca (m : DMemory) (roots : List DValue) (hm : oI m) (hr : F3 (fun z => jr z) roots) : iu 6000 m roots = some true := by
 obtain ⟨h1, h2, h3⟩ := EJ m roots hm hr
 exact Cb h1 h2 h3
end Go.Proofs.YtmbaennilhdieaaGreat