/- Plain: zeroing what is not reachable changes nothing. -/
import Derived.Test.YtmbaennilhdieaaRs6
import Derived.Test.YtmbaennilhdieaaRs3
namespace Go.Proofs.Ytmbaennilhdieaa
open Go.RowKit

theorem copied_spec (N : Nat) (hN : 5000 < N) (l : List DCell) (hl : l.length ≤ 1000) (hc : ∀ c ∈ l, c.Slots.length ≤ 600 ∧ c.More.length ≤ 600) : pantomimeref19_copied_O N l = some l := by
  apply Sat.eq
  unfold pantomimeref19_copied_O
  refine loop_inv (fun k i (s : List DCell) => pantomimeref19_copied_l5 N l k s (i : Int)) l.length (fun i s => s = l.take i) _ ?_ ?_ N 0 [] (by omega) (by omega) (by simp)
  · rintro k i s hi h1 go
    subst h1
    have hci := hc l[i] (List.getElem_mem _)
    show Sat (pantomimeref19_copied_l5 N l (k + 1) (l.take i) (i : Int)) _
    rw [pantomimeref19_copied_l5_s, lt_t (by omega), ct, getE_n hi, bs]
    rw [rF (by simp; omega), rF (by simp; omega), rF (by simp; omega), r64 (by omega) (by omega)]
    refine go _ ?_
    rw [take_succ_get hi]; rfl
  · rintro k s h1
    subst h1
    show Sat (pantomimeref19_copied_l5 N l (k + 1) _ _) _
    rw [pantomimeref19_copied_l5_s, lt_f (by omega), cf]
    exact sat_some (by simp)
theorem copied_mem (N : Nat) (hN : 5000 < N) {m : DMemory} {roots : List DValue} (hs : Small m roots) : pantomimeref19_Copied_O N m = some m := by
  have h1 := hs.young
  have h2 := hs.old
  unfold pantomimeref19_Copied_O
  rw [copied_spec N hN m.Young (by omega) fun c hc => hs.cell (List.mem_append_left _ hc), bs, copied_spec N hN m.Old (by omega) fun c hc => hs.cell (List.mem_append_right _ hc), bs]
theorem same_refl (N : Nat) (l : List Int) (hl : l.length < N) (hl2 : l.length ≤ 5000) : pantomimeref19_Same_O N l l = some true := by
  apply Sat.eq
  unfold pantomimeref19_Same_O
  rw [decide_eq_true (p := ((l.length : Int) = (l.length : Int))) rfl]
  simp only [nt, cf]
  refine loop_inv0 (fun k i => pantomimeref19_Same_l5 N l l k (i : Int)) l.length (fun _ => True) _ ?_ ?_ N 0 (by omega) (by omega) trivial
  · intro k i hi _ go
    show Sat (pantomimeref19_Same_l5 N l l (k + 1) (i : Int)) _
    rw [pantomimeref19_Same_l5_s, lt_t (by omega), ct, getE_n hi, bs, bs, decide_eq_true (p := l[i] = l[i]) rfl]
    simp only [nt, cf]
    rw [r64 (by omega) (by omega)]
    exact go trivial
  · intro k _
    show Sat (pantomimeref19_Same_l5 N l l (k + 1) _) _
    rw [pantomimeref19_Same_l5_s, lt_f (by omega), cf]
    exact sat_some rfl
/-- a cell, or nothing -/
def zc (live : List Int) (a : Int) (c : DCell) : DCell := bif decide (a ∈ live) then c else zeroC
theorem zc_mem {live : List Int} {a : Int} {c : DCell} {v : DValue} (h : v ∈ (zc live a c).Slots ++ (zc live a c).More) : v ∈ c.Slots ++ c.More := by
  unfold zc at h
  cases hd : decide (a ∈ live)
  · rw [hd] at h; simp [zeroC] at h
  · rw [hd] at h; exact h
theorem zc_len (live : List Int) (a : Int) (c : DCell) : (zc live a c).Slots.length ≤ c.Slots.length ∧ (zc live a c).More.length ≤ c.More.length := by
  unfold zc
  cases decide (a ∈ live)
  · exact ⟨Nat.zero_le _, Nat.zero_le _⟩
  · exact ⟨Nat.le_refl _, Nat.le_refl _⟩
/-- the row l, its cells zeroed below i -/
def Zr (live : List Int) (off : Int) (l : List DCell) (i : Nat) (p : List DCell) : Prop := ∀ j : Nat, p[j]? = (l[j]?).map fun c => if j < i then zc live (2 * (j : Int) + off) c else c
theorem Zr.len {live : List Int} {off : Int} {l p : List DCell} {i : Nat} (h : Zr live off l i p) : p.length = l.length := by
  rcases Nat.lt_trichotomy p.length l.length with h1 | h1 | h1
  · have h2 := h p.length
    rw [List.getElem?_eq_none (Nat.le_refl _), List.getElem?_eq_getElem h1] at h2; cases h2
  · exact h1
  · have h2 := h l.length
    rw [List.getElem?_eq_none (Nat.le_refl _), List.getElem?_eq_getElem h1] at h2; cases h2
theorem Zr.keep {live : List Int} {off : Int} {l p : List DCell} {i : Nat} (h : Zr live off l i p) (hi : (2 * (i : Int) + off) ∈ live) : Zr live off l (i + 1) p := fun j => by
  rw [h j]
  cases hl : l[j]? with
  | none => rfl
  | some c =>
    simp only [Option.map_some, Option.some.injEq]
    by_cases e : j = i
    · subst e
      rw [if_neg (by omega), if_pos (by omega)]
      unfold zc; rw [decide_eq_true hi]; rfl
    · by_cases h2 : j < i
      · rw [if_pos h2, if_pos (by omega)]
      · rw [if_neg h2, if_neg (by omega)]
theorem Zr.zero {live : List Int} {off : Int} {l p : List DCell} {i : Nat} (h : Zr live off l i p) (hi : (2 * (i : Int) + off) ∉ live) (hl : i < l.length) : Zr live off l (i + 1) (p.set i zeroC) := fun j => by
  have hp := h.len
  by_cases e : i = j
  · subst e
    rw [List.getElem?_set_self (by omega), List.getElem?_eq_getElem hl]
    simp only [Option.map_some, Option.some.injEq]
    rw [if_pos (by omega)]
    unfold zc; rw [decide_eq_false hi]; rfl
  · rw [List.getElem?_set_ne e, h j]
    cases hj : l[j]? with
    | none => rfl
    | some c =>
      simp only [Option.map_some, Option.some.injEq]
      by_cases h2 : j < i
      · rw [if_pos h2, if_pos (by omega)]
      · rw [if_neg h2, if_neg (by omega)]
theorem Zr.whole {live : List Int} {off : Int} {l p : List DCell} (h : Zr live off l l.length p) (j : Nat) : p[j]? = (l[j]?).map (zc live (2 * (j : Int) + off)) := by
  rw [h j]
  cases hj : l[j]? with
  | none => rfl
  | some c => simp only [Option.map_some]; rw [if_pos (List.getElem?_eq_some_iff.1 hj).1]
theorem cellAt_zero {live : List Int} {m m' : DMemory} (hy : Zr live 1 m.Young m.Young.length m'.Young) (ho : Zr live 2 m.Old m.Old.length m'.Old) (a : Int) : cellAt m' a = (cellAt m a).map (zc live a) := by
  unfold cellAt
  split
  · rfl
  · split
    · rw [hy.whole, show 2 * ((((a - 1) / 2).toNat : Nat) : Int) + 1 = a by omega]
    · rw [ho.whole, show 2 * ((((a - 2) / 2).toNat : Nat) : Int) + 2 = a by omega]
theorem pick_take {f : Nat → DValue → Bool} {x : Int} {k : Nat} : ∀ {i : Nat} {l : List DValue}, x ∈ pick f i (l.take k) → x ∈ pick f i l := by
  induction k with
  | zero => intro i l h; simp [pick] at h
  | succ k ih =>
    intro i l h
    cases l with
    | nil => exact h
    | cons v l =>
      rw [List.take_succ_cons, pick_cons] at h
      rw [pick_cons]
      rcases List.mem_append.1 h with h | h
      · exact List.mem_append_left _ h
      · exact List.mem_append_right _ (ih h)
theorem leads_bare {N : Nat} {c : DCell} {x : Int} (h : x ∈ leadsL (bareC N c)) : x ∈ leadsL c := by
  unfold bareC at h
  cases hw : isFR N c
  · rw [hw] at h; exact h
  · rw [hw] at h
    unfold leadsL at h ⊢
    rcases List.mem_append.1 h with h | h
    · exact List.mem_append_left _ h
    · exact List.mem_append_right _ (pick_take h)
theorem opens_mono {p q : Int → Bool} (hpq : ∀ x, p x = true → q x = true) {x : Int} : ∀ {l : List DValue}, x ∈ opens p l → x ∈ opens q l
  | [], h => by simp [opens] at h
  | [_], h => by simp [opens] at h
  | k :: v :: r, h => by
    rw [opens_cons] at h ⊢
    rcases List.mem_append.1 h with h | h
    · refine List.mem_append_left _ ?_
      cases hk : p k.N with
      | false => rw [hk, Bool.and_false] at h; cases h
      | true => rw [hk] at h; rw [hpq _ hk]; exact h
    · exact List.mem_append_right _ (opens_mono hpq h)
theorem opens_bare {N : Nat} {c : DCell} {row l : List Int} (hr : ∀ x ∈ row, x ∈ l) {x : Int} (h : x ∈ opensL N (bareC N c) row) : x ∈ opensL N c l := by
  unfold bareC at h
  cases hw : isFR N c
  · rw [hw] at h
    unfold opensL at h ⊢
    cases hm : isWM N c
    · rw [cf, hm] at h; cases h
    · rw [cf, hm] at h
      exact opens_mono (fun x hx => by simp at hx ⊢; exact hr x hx) h
  · exfalso
    rw [hw] at h
    have h10 : c.Kind = 10 := by unfold isFR at hw; simp at hw; exact hw.1
    unfold opensL isWM at h
    rw [ct, eq_f (by show c.Kind ≠ 8; omega)] at h
    cases h
theorem closed_bare {N : Nat} {m : DMemory} {roots b l : List Int} (h : IsOrder (grM N m) roots b l) : ClosedS (grM N (bareM N m)) (· ∈ l) := by
  obtain ⟨h1, h2⟩ := h.closed
  have hh : ∀ x, (grM N (bareM N m)).has x = hasM m x := fun x => congrFun (hasM_bare N m) x
  refine ⟨fun a ha x hx hx2 => ?_, fun row hr a ha x hx hx2 => ?_⟩
  · have hx' : x ∈ leadsL (atM (bareM N m) a) := hx
    rw [atM_bare N m a (h.has.2 a ha)] at hx'
    exact h1 a ha x (leads_bare hx') ((hh x).symm.trans hx2)
  · have hx' : x ∈ opensL N (atM (bareM N m) a) row := hx
    rw [atM_bare N m a (h.has.2 a ha)] at hx'
    exact h2 a ha x (opens_bare hr hx') ((hh x).symm.trans hx2)
theorem in64_of {m : DMemory} {roots : List DValue} (hs : Small m roots) {x : Int} (h : hasM m x = true) : in64 x := by
  have h2 := hasM_pos h
  have h3 := hasM_le hs h
  unfold in64; omega
theorem nothing_spec {m : DMemory} {roots : List DValue} (hb : Bnd 140737488355328 m roots) (hw : W64 m) (hr : ∀ v ∈ roots, in64 v.N) : pantomimelaw19_ReachNothing_O 6000 m roots = some true := by
  apply Sat.eq
  unfold pantomimelaw19_ReachNothing_O
  refine Sat.bind (few_spec 6000 (by decide) hb) fun b hfew => ?_
  refine sat_not (fun _ => ?_) fun hb1 => ?_
  · rw [goes_true]; exact sat_some rfl
  have hs := hfew hb1
  have hyl := hs.young
  have hol := hs.old
  obtain ⟨bg, all, ho, hlen, -, -, o0⟩ := order_fun 6000 (by decide) hs hw hr
  have hlive : reach_Live_O 6000 m roots = some (sortL all) := live_of o0 (by omega) rfl
  have hll : (sortL all).length = all.length := sortL_len all
  have hmem := sortL_mem all
  rw [hlive, bs, o0, bs, copied_mem 6000 (by decide) hs, bs]
  generalize hL : sortL all = live at *
  -- the last part
  have last : ∀ p q, Zr live 1 m.Young m.Young.length p → Zr live 2 m.Old m.Old.length q → Sat (pantomimelaw19_ReachNothing_j30 6000 roots live all m p q) (· = true) := by
    intro p q hp hq
    have hcell : ∀ a, cellAt ⟨p, q⟩ a = (cellAt m a).map (zc live a) := fun a => cellAt_zero hp hq a
    have hhas : hasM ⟨p, q⟩ = hasM m := by
      funext a; unfold hasM; rw [hcell]; cases cellAt m a <;> rfl
    have hat : ∀ a ∈ all, atM ⟨p, q⟩ a = atM m a := fun a ha => by
      unfold atM; rw [hcell]
      cases cellAt m a with
      | none => rfl
      | some c =>
        show zc live a c = c
        unfold zc; rw [decide_eq_true ((hmem a).2 ha)]; rfl
    have hfrom : ∀ c ∈ p ++ q, ∃ d a, d ∈ m.Young ++ m.Old ∧ c = zc live a d := fun c hc => by
      rcases List.mem_append.1 hc with hc | hc
      · obtain ⟨j, hj, e⟩ := List.getElem_of_mem hc
        have h1 := hp.whole j
        rw [List.getElem?_eq_getElem hj, e] at h1
        cases hd : m.Young[j]? with
        | none => rw [hd] at h1; cases h1
        | some d => rw [hd] at h1; exact ⟨d, _, List.mem_append_left _ (List.mem_of_getElem? hd), Option.some.inj h1⟩
      · obtain ⟨j, hj, e⟩ := List.getElem_of_mem hc
        have h1 := hq.whole j
        rw [List.getElem?_eq_getElem hj, e] at h1
        cases hd : m.Old[j]? with
        | none => rw [hd] at h1; cases h1
        | some d => rw [hd] at h1; exact ⟨d, _, List.mem_append_right _ (List.mem_of_getElem? hd), Option.some.inj h1⟩
    have hs' : Small ⟨p, q⟩ roots := ⟨by show p.length ≤ 600; rw [hp.len]; exact hyl, by show q.length ≤ 600; rw [hq.len]; exact hol, hs.roots, fun c hc => by
      obtain ⟨d, a, hd, rfl⟩ := hfrom c hc
      have h1 := hs.cell hd
      have h2 := zc_len live a d
      omega⟩
    have hw' : W64 ⟨p, q⟩ := fun c hc v hv => by
      obtain ⟨d, a, hd, rfl⟩ := hfrom c hc
      exact hw d hd v (zc_mem hv)
    have hcg : IsOrder (grM 6000 ⟨p, q⟩) (addrL roots) bg.all_ all := ho.congr hhas fun a ha => by
      refine ⟨?_, fun row => ?_⟩
      · show leadsL (atM ⟨p, q⟩ a) = leadsL (atM m a); rw [hat a ha]
      · show opensL 6000 (atM ⟨p, q⟩ a) row = opensL 6000 (atM m a) row; rw [hat a ha]
    obtain ⟨bg', all', ho', -, -, -, o0'⟩ := order_fun 6000 (by decide) hs' hw' hr
    have e := (ho'.det hcg).2
    subst e
    have hlive' : reach_Live_O 6000 ⟨p, q⟩ roots = some live := live_of o0' (by omega) hL
    -- the comparison
    obtain ⟨bb, Lb, hob, hlb, -, -, ob⟩ := order_fun 6000 (by decide) (hs.bare 6000) (hw.bare 6000) hr
    have hsub : ∀ a ∈ Lb, a ∈ all' := hob.in_ (closed_bare ho) fun x hx hx2 => ho.sub (ho.roots hx ((congrFun (hasM_bare 6000 m) x).symm.trans hx2))
    have hatb : ∀ a ∈ Lb, atM (bareM 6000 ⟨p, q⟩) a = atM (bareM 6000 m) a := fun a ha => by
      have h1 := ho.has.2 a (hsub a ha)
      have h1' : hasM m a = true := h1
      rw [atM_bare 6000 m a h1', atM_bare 6000 ⟨p, q⟩ a (by rw [hhas]; exact h1'), hat a (hsub a ha)]
    have hhb : hasM (bareM 6000 ⟨p, q⟩) = hasM (bareM 6000 m) := by rw [hasM_bare, hasM_bare, hhas]
    have hcb : IsOrder (grM 6000 (bareM 6000 ⟨p, q⟩)) (addrL roots) bb.all_ Lb := hob.congr hhb fun a ha => by
      refine ⟨?_, fun row => ?_⟩
      · show leadsL (atM (bareM 6000 ⟨p, q⟩) a) = leadsL (atM (bareM 6000 m) a); rw [hatb a ha]
      · show opensL 6000 (atM (bareM 6000 ⟨p, q⟩) a) row = opensL 6000 (atM (bareM 6000 m) a) row; rw [hatb a ha]
    obtain ⟨bb', Lb', hob', -, -, -, ob'⟩ := order_fun 6000 (by decide) (hs'.bare 6000) (hw'.bare 6000) hr
    have e := (hob'.det hcb).2
    subst e
    have hal := alike_same 6000 (by decide) hs hs' hw hr Lb' hlb (fun z hz => in64_of (hs.bare 6000) (hob.has.2 z hz)) hhb ob ob' hatb
    unfold pantomimelaw19_ReachNothing_j30
    rw [hlive', bs, same_refl 6000 live (by omega) (by omega), bs, ct, o0', bs, same_refl 6000 all' (by omega) (by omega), bs, bs, ct, hal, bs, bs, ct, goes_true, bs, bs]
    exact sat_some rfl
  -- the old cells
  have old : ∀ p, Zr live 1 m.Young m.Young.length p → Sat (pantomimelaw19_ReachNothing_j16 6000 roots live all m m p) (· = true) := by
    intro p hp
    unfold pantomimelaw19_ReachNothing_j16
    refine loop_inv (fun k i (s : List DCell) => pantomimelaw19_ReachNothing_l32 6000 m roots live all m p k (i : Int) s) m.Old.length (fun i s => Zr live 2 m.Old i s) _ ?_ ?_ 6000 0 m.Old (by omega) (by omega) (fun j => by simp)
    · rintro k i s hi h1 go
      show Sat (pantomimelaw19_ReachNothing_l32 6000 m roots live all m p (k + 1) (i : Int) s) _
      have hsl := h1.len
      rw [pantomimelaw19_ReachNothing_l32_s, lt_t (by omega), ct, r64 (by omega) (by omega), r64 (by omega) (by omega), in19 6000 (by decide) live (by omega), bs]
      unfold pantomimelaw19_ReachNothing_j36
      rw [r64 (a := (i : Int) + 1) (by omega) (by omega)]
      by_cases hin : (2 * (i : Int) + 2) ∈ live
      · rw [decide_eq_true hin]
        simp only [nt, cf]
        rw [r64 (by omega) (by omega)]; exact go _ (h1.keep hin)
      · rw [decide_eq_false hin]
        simp only [nf, ct]
        rw [getE_n (by omega), bs, Int.toNat_natCast]
        exact go _ (h1.zero hin hi)
    · rintro k s h1
      show Sat (pantomimelaw19_ReachNothing_l32 6000 m roots live all m p (k + 1) _ s) _
      rw [pantomimelaw19_ReachNothing_l32_s, lt_f (by omega), cf]
      exact last p s hp h1
  refine loop_inv (fun k i (s : List DCell) => pantomimelaw19_ReachNothing_l18 6000 m roots live all m k (i : Int) s) m.Young.length (fun i s => Zr live 1 m.Young i s) _ ?_ ?_ 6000 0 m.Young (by omega) (by omega) (fun j => by simp)
  · rintro k i s hi h1 go
    show Sat (pantomimelaw19_ReachNothing_l18 6000 m roots live all m (k + 1) (i : Int) s) _
    have hsl := h1.len
    rw [pantomimelaw19_ReachNothing_l18_s, lt_t (by omega), ct, r64 (by omega) (by omega), r64 (by omega) (by omega), in19 6000 (by decide) live (by omega), bs]
    unfold pantomimelaw19_ReachNothing_j22
    rw [r64 (a := (i : Int) + 1) (by omega) (by omega)]
    by_cases hin : (2 * (i : Int) + 1) ∈ live
    · rw [decide_eq_true hin]
      simp only [nt, cf]
      rw [r64 (by omega) (by omega)]; exact go _ (h1.keep hin)
    · rw [decide_eq_false hin]
      simp only [nf, ct]
      rw [getE_n (by omega), bs, Int.toNat_natCast]
      exact go _ (h1.zero hin hi)
  · rintro k s h1
    show Sat (pantomimelaw19_ReachNothing_l18 6000 m roots live all m (k + 1) _ s) _
    rw [pantomimelaw19_ReachNothing_l18_s, lt_f (by omega), cf]
    exact old s h1
end Go.Proofs.Ytmbaennilhdieaa
