/- Merged texts: part 8. No conditions of their own. -/
import Derived.Test.YtmbaennilhdieaaGreatG7
import Derived.Test.YtmbaennilhdieaaGreatG3
/- Plain: the weight of a memory. -/
namespace Go.Proofs.YtmbaennilhdieaaGreat
open Go.RowKit
def wt : List DCell → Nat
 | [] => 0
 | c :: l => 1 + c.Slots.length + c.More.length + wt l
theorem wt_app : ∀ a b : List DCell, wt (a ++ b) = wt a + wt b
 | [], b => by simp [wt]
 | c :: a, b => by rw [List.cons_append, wt, wt, wt_app a b]; omega
theorem wt_len : ∀ l : List DCell, l.length ≤ wt l
 | [] => Nat.le_refl _
 | c :: l => by have := wt_len l; rw [wt, List.length_cons]; omega
theorem wt_mem : ∀ {l : List DCell} {c : DCell}, c ∈ l → 1 + c.Slots.length + c.More.length ≤ wt l
 | d :: l, c, h => by
  rw [wt]
  rcases List.mem_cons.1 h with rfl | h
  ·omega
  ·have := wt_mem h; omega
theorem wt_take {l : List DCell} {i : Nat} (h : i < l.length) : wt (l.take (i + 1)) = wt (l.take i) + (1 + l[i].Slots.length + l[i].More.length) := by
 rw [take_succ_get h, wt_app]; simp [wt]
def W6 (m : DMemory) (roots : List DValue) : Prop := roots.length + wt m.Young + wt m.Old ≤ 600
structure Wtd (m : DMemory) (roots : List DValue) : Prop where
 le : roots.length + wt m.Young + wt m.Old ≤ 2400
 cnt : m.Young.length + m.Old.length ≤ 600
theorem W6.wtd {m : DMemory} {roots : List DValue} (h : W6 m roots) : Wtd m roots := by
 have h1 : roots.length + wt m.Young + wt m.Old ≤ 600 := h
 have h2 := wt_len m.Young
 have h3 := wt_len m.Old
 exact ⟨by omega, by omega⟩
theorem W6.small {m : DMemory} {roots : List DValue} (h : W6 m roots) : Small m roots := by
 have h1 : roots.length + wt m.Young + wt m.Old ≤ 600 := h
 have h2 := wt_len m.Young
 have h3 := wt_len m.Old
 refine ⟨by omega, by omega, by omega, fun c hc => ?_⟩
 rcases List.mem_append.1 hc with hc | hc
 ·have := wt_mem hc; omega
 ·have := wt_mem hc; omega
theorem few_tot (N : Nat) (hN : 5000 < N) {m : DMemory} {roots : List DValue} (hb : Bnd 140737488355328 m roots) : Sat (r19_Few_O N m roots) fun b => b = true → W6 m roots := by
 have hy := hb.young; have ho := hb.old; have hr := hb.roots
 have old : ∀ p : Nat, p ≤ 300000000000000 → (p ≤ 600 → p = roots.length + wt m.Young) → Sat (r19_Few_j5 N m (p : Int)) fun b => b = true → W6 m roots := by
  intro p hp hY
  unfold r19_Few_j5
  refine loop_dec (fun f (s : Nat × Nat) => r19_Few_l26 N m f (s.1 : Int) (s.2 : Int)) (fun s => 700 - s.1) (fun s => s.1 ≤ 300000000000000 ∧ s.2 ≤ m.Old.length ∧ (s.1 ≤ 600 → s.1 = roots.length + wt m.Young + wt (m.Old.take s.2))) _ ?_ N (p, 0) (by show 700 - p < N; omega) ⟨hp, Nat.zero_le _, fun h => by have := hY h; simp [wt]; omega⟩
  rintro f ⟨p, i⟩ ⟨h1, h2, h3⟩ go
  show Sat (r19_Few_l26 N m (f + 1) (p : Int) (i : Int)) _
  simp only at h1 h2 h3
  rw [r19_Few_l26_s]
  have fin : (i = m.Old.length ∨ 600 < p) → Sat (r19_Few_j24 N (p : Int)) fun b => b = true → W6 m roots := fun hh => sat_some fun hb2 => by
   have hp6 : (p : Int) ≤ 600 := of_decide_eq_true hb2
   have h4 := h3 (by omega)
   have hi : i = m.Old.length := by omega
   subst hi
   rw [List.take_length] at h4
   exact (show roots.length + wt m.Young + wt m.Old ≤ 600 by omega)
  by_cases hi : i < m.Old.length
  ·rw [lt_t (by omega), ct, bs]
   refine sat_dec (fun h6 => ?_) fun h6 => fin (.inr (by omega))
   have hc := hb.cells m.Old[i] (by simp)
   rw [r64 (a := (p : Int) + 1) (by omega) (by omega), getE_n hi, bs, r64 (a := (p : Int) + 1 + (m.Old[i].Slots.length : Int)) (by omega) (by omega), bs, r64 (a := (p : Int) + 1 + (m.Old[i].Slots.length : Int) + (m.Old[i].More.length : Int)) (by omega) (by omega), r64 (a := (i : Int) + 1) (by omega) (by omega)]
   have hg := go (p + 1 + m.Old[i].Slots.length + m.Old[i].More.length, i + 1) (by show 700 - (p + 1 + m.Old[i].Slots.length + m.Old[i].More.length) < 700 - p; omega) ⟨by show p + 1 + m.Old[i].Slots.length + m.Old[i].More.length ≤ 300000000000000; omega, hi, fun h7 => by
    simp only at h7 ⊢
    have := h3 (by omega)
    rw [wt_take hi]; omega⟩
   simpa using hg
  ·rw [lt_f (by omega), cf, bs, cf]
   exact fin (.inl (by omega))
 unfold r19_Few_O
 refine loop_dec (fun f (s : Nat × Nat) => r19_Few_l7 N m f (s.1 : Int) (s.2 : Int)) (fun s => 700 - s.1) (fun s => s.1 ≤ 300000000000000 ∧ s.2 ≤ m.Young.length ∧ (s.1 ≤ 600 → s.1 = roots.length + wt (m.Young.take s.2))) _ ?_ N (roots.length, 0) (by show 700 - roots.length < N; omega) ⟨by show roots.length ≤ 300000000000000; omega, Nat.zero_le _, fun h => by simp [wt]⟩
 rintro f ⟨p, i⟩ ⟨h1, h2, h3⟩ go
 show Sat (r19_Few_l7 N m (f + 1) (p : Int) (i : Int)) _
 simp only at h1 h2 h3
 rw [r19_Few_l7_s]
 by_cases hi : i < m.Young.length
 ·rw [lt_t (by omega), ct, bs]
  refine sat_dec (fun h6 => ?_) fun h6 => old p h1 fun h7 => absurd h7 (by omega)
  have hc := hb.cells m.Young[i] (by simp)
  rw [r64 (a := (p : Int) + 1) (by omega) (by omega), getE_n hi, bs, r64 (a := (p : Int) + 1 + (m.Young[i].Slots.length : Int)) (by omega) (by omega), bs, r64 (a := (p : Int) + 1 + (m.Young[i].Slots.length : Int) + (m.Young[i].More.length : Int)) (by omega) (by omega), r64 (a := (i : Int) + 1) (by omega) (by omega)]
  have hg := go (p + 1 + m.Young[i].Slots.length + m.Young[i].More.length, i + 1) (by show 700 - (p + 1 + m.Young[i].Slots.length + m.Young[i].More.length) < 700 - p; omega) ⟨by show p + 1 + m.Young[i].Slots.length + m.Young[i].More.length ≤ 300000000000000; omega, hi, fun h7 => by
   simp only at h7 ⊢
   have := h3 (by omega)
   rw [wt_take hi]; omega⟩
  simpa using hg
 ·rw [lt_f (by omega), cf, bs, cf]
  have hie : i = m.Young.length := by omega
  subst hie
  refine old p h1 fun h7 => ?_
  have := h3 h7
  rw [List.take_length] at this
  exact this
end Go.Proofs.YtmbaennilhdieaaGreat
/- Plain: cleaned weak maps, bare registries, equal values. -/
namespace Go.Proofs.YtmbaennilhdieaaGreat
open Go.RowKit
def cleanL (p : Int → Bool) : List DValue → List DValue
 | k :: v :: r => (bif p k.N then [k, v] else []) ++ cleanL p r
 | _ => []
theorem cleanL_len (p : Int → Bool) : ∀ l : List DValue, (cleanL p l).length ≤ l.length
 | [] => by simp [cleanL]
 | [_] => by simp [cleanL]
 | k :: v :: r => by
  have := cleanL_len p r
  unfold cleanL
  cases p k.N <;> simp <;> omega
theorem cleanL_mem {p : Int → Bool} {x : DValue} : ∀ {l : List DValue}, x ∈ cleanL p l → x ∈ l
 | [], h => by simp [cleanL] at h
 | [_], h => by simp [cleanL] at h
 | k :: v :: r, h => by
  unfold cleanL at h
  rcases List.mem_append.1 h with h | h
  ·cases hp : p k.N with
   | false => rw [hp] at h; cases h
   | true => rw [hp] at h; simp at h; rcases h with h | h <;> simp [h]
  ·have := cleanL_mem h; simp [this]
def cleanW (N : Nat) (l : List Int) (c : DCell) : DCell := bif isWM N c then ⟨c.Kind, c.Shape, c.Flags, c.Age, c.Slots, cleanL (fun x => decide (x ∈ l)) c.More⟩ else c
theorem kept_body (N : Nat) (hN : 5000 < N) (l : List Int) (hl : l.length ≤ 5000) (y : DCell) (k v : DValue) (s : List DValue) (hs : s.length ≤ 5000) : liftR (fun x st => weak_kept_b12 N (fun x => weak_Clean_c1_O N x l) y x st) (k, v) (none, s) = some (true, (none, s ++ (bif decide (k.N ∈ l) then [k, v] else []))) := by
 unfold liftR weak_kept_b12 weak_Clean_c1_O
 simp only [bs, contains_prog N hN l hl]
 cases decide (k.N ∈ l)
 ·simp only [cf, List.append_nil]; rfl
 ·simp only [ct]
  rw [rF (by simp; omega)]
  rfl
theorem kept_loop (N : Nat) (hN : 5000 < N) (l : List Int) (hl : l.length ≤ 5000) (y c : DCell) (hc : c.More.length ≤ 1000) (he : c.More.length % 2 = 0) : ∀ (m i : Nat) (s : List DValue), c.More.length < m + i → i ≤ c.More.length → i % 2 = 0 → s.length ≤ i → weak_entries_c1_l4 N (liftR (fun x st => weak_kept_b12 N (fun x => weak_Clean_c1_O N x l) y x st)) c m (i : Int) (none, s) = some (none, s ++ cleanL (fun x => decide (x ∈ l)) (c.More.drop i))
 | 0, i, s, h, h2, _, _ => by omega
 | m + 1, i, s, h, h2, h3, h4 => by
  rw [weak_entries_c1_l4_s, r64 (a := (i : Int) + 1) (by omega) (by omega)]
  by_cases hi : i < c.More.length
  ·have hi1 : i + 1 < c.More.length := by omega
   have hl1 : getE c.More ((i : Int) + 1) = some c.More[i + 1] := by
    have := getE_n hi1
    simpa using this
   rw [lt_t (by omega), ct, getE_n hi, bs, r64 (a := (i : Int) + 1) (by omega) (by omega), hl1, bs, kept_body N hN l hl y _ _ s (by omega), bs]
   simp only [nt, cf]
   rw [r64 (by omega) (by omega)]
   have hlen : (s ++ (bif decide (c.More[i].N ∈ l) then [c.More[i], c.More[i + 1]] else [])).length ≤ i + 2 := by
    cases decide (c.More[i].N ∈ l) <;> simp <;> omega
   have := kept_loop N hN l hl y c hc he m (i + 2) _ (by omega) (by omega) (by omega) hlen
   simp only [Int.natCast_add, Int.cast_ofNat_Int] at this
   rw [this, List.drop_eq_getElem_cons hi, List.drop_eq_getElem_cons hi1, List.append_assoc]; rfl
  ·rw [lt_f (by omega), cf, List.drop_eq_nil_of_le (by omega)]
   simp [cleanL]
theorem clean_prog (N : Nat) (hN : 5000 < N) (l : List Int) (hl : l.length ≤ 5000) (c : DCell) (hS : c.Slots.length ≤ 600) (hc : c.More.length ≤ 600) : weak_Clean_O N c l = some (bif isWM N c then cleanW N l c else zeroC) := by
 obtain ⟨-, h1, h2⟩ := is_ref N (by omega) c (by omega) (by omega)
 unfold weak_Clean_O weak_kept_O weak_entries_c1_O cleanW
 rw [h1, bs]
 cases hw : isWM N c
 ·rfl
 ·have e : weak_entries_O N c = some () := rfl
  have := kept_loop N hN l hl c c (by omega) (h2 hw) N 0 [] (by omega) (by omega) rfl (by simp)
  simp only [nt, cf, ct, e, bs, copy_spec N c ⟨hS, hc⟩]
  have h3 : weak_entries_c1_l4 N (liftR (fun x st => weak_kept_b12 N (fun x => weak_Clean_c1_O N x l) c x st)) c N 0 (none, []) = some (none, [] ++ cleanL (fun x => decide (x ∈ l)) (c.More.drop 0)) := this
  rw [h3, bs]
  rfl
theorem cleaned_prog (N : Nat) (hN : 5000 < N) (l : List Int) (hl : l.length ≤ 5000) (c : DCell) (hS : c.Slots.length ≤ 600) (hc : c.More.length ≤ 600) : reach_cleaned_O N c l = some (cleanW N l c) := by
 have h0 := clean_prog N hN l hl c hS hc
 unfold reach_cleaned_O
 rw [h0, right_eq N (by omega) c (by omega) (by omega)]
 unfold cleanW isWM
 obtain ⟨b, hb, -⟩ := right_tot N (by omega) c (by omega) (by omega)
 rw [hb]
 cases decide (c.Kind = 8) <;> cases b <;> rfl
theorem cleanW_len (N : Nat) (l : List Int) (c : DCell) : (cleanW N l c).Slots.length = c.Slots.length ∧ (cleanW N l c).More.length ≤ c.More.length := by
 unfold cleanW
 cases isWM N c
 ·exact ⟨rfl, Nat.le_refl _⟩
 ·exact ⟨rfl, cleanL_len _ _⟩
theorem cleanW_mem {N : Nat} {l : List Int} {c : DCell} {v : DValue} (h : v ∈ (cleanW N l c).Slots ++ (cleanW N l c).More) : v ∈ c.Slots ++ c.More := by
 unfold cleanW at h
 cases hw : isWM N c
 ·rw [hw] at h; exact h
 ·rw [hw] at h
  rcases List.mem_append.1 h with h | h
  ·exact List.mem_append_left _ h
  ·exact List.mem_append_right _ (cleanL_mem h)
def isFR (N : Nat) (c : DCell) : Bool := decide (c.Kind = 10) && (r15_Right_O N c).getD false
def bareC (N : Nat) (c : DCell) : DCell := bif isFR N c then ⟨c.Kind, c.Shape, c.Flags, c.Age, c.Slots, c.More.take 1⟩ else c
theorem bareC_len (N : Nat) (c : DCell) : (bareC N c).Slots.length = c.Slots.length ∧ (bareC N c).More.length ≤ c.More.length := by
 unfold bareC
 cases isFR N c
 ·exact ⟨rfl, Nat.le_refl _⟩
 ·exact ⟨rfl, by show (c.More.take 1).length ≤ _; rw [List.length_take]; omega⟩
theorem bareC_mem {N : Nat} {c : DCell} {v : DValue} (h : v ∈ (bareC N c).Slots ++ (bareC N c).More) : v ∈ c.Slots ++ c.More := by
 unfold bareC at h
 cases hw : isFR N c
 ·rw [hw] at h; exact h
 ·rw [hw] at h
  rcases List.mem_append.1 h with h | h
  ·exact List.mem_append_left _ h
  ·exact List.mem_append_right _ (List.mem_of_mem_take h)
theorem bare_row (N : Nat) (hN : 5000 < N) (l : List DCell) (hl : l.length ≤ 1000) (hc : ∀ c ∈ l, c.Slots.length ≤ 600 ∧ c.More.length ≤ 600) : reach_bare_c1_O N l = some (l.map (bareC N)) := by
 apply Sat.eq
 unfold reach_bare_c1_O slices_Clone_Cell_O
 rw [rF (by simp; omega), bs, List.nil_append]
 refine loop_inv (fun k i (s : List DCell) => reach_bare_c1_l6 N l k s (i : Int)) l.length (fun i s => s = (l.take i).map (bareC N) ++ l.drop i) _ ?_ ?_ N 0 l (by omega) (by omega) (by simp)
 ·rintro k i s hi h1 go
  show Sat (reach_bare_c1_l6 N l (k + 1) s (i : Int)) _
  have hci := hc l[i] (List.getElem_mem _)
  have hsl : s.length = l.length := by rw [h1]; simp; omega
  have hg : getE s (i : Int) = some l[i] := by
   have h2 : s[i]'(by omega) = l[i] := by
    subst h1
    rw [List.getElem_append_right (by simp; omega)]
    simp [Nat.min_eq_left (Nat.le_of_lt hi)]
   rw [getE_n (by omega), h2]
  have hset : ∀ d, s.set i d = (l.take i).map (bareC N) ++ d :: l.drop (i + 1) := fun d => by
   have hlen : ((l.take i).map (bareC N)).length = i := by rw [List.length_map, List.length_take]; omega
   rw [h1, List.set_append_right _ _ (by omega), hlen, Nat.sub_self, List.drop_eq_getElem_cons hi]; rfl
  have hnext : ∀ d, d = bareC N l[i] → (l.take i).map (bareC N) ++ d :: l.drop (i + 1) = (l.take (i + 1)).map (bareC N) ++ l.drop (i + 1) := fun d e => by
   rw [take_succ_get hi, e, List.map_append, List.append_assoc]; rfl
  rw [reach_bare_c1_l6_s, lt_t (by omega), ct, hg, bs, right_eq N (by omega) _ (by omega) (by omega)]
  obtain ⟨b, hb, hb2⟩ := right_tot N (by omega) l[i] (by omega) (by omega)
  rw [hb]
  unfold reach_bare_c1_j10
  rw [r64 (a := (i : Int) + 1) (by omega) (by omega)]
  have he : ((bif decide (l[i].Kind = 10) then ((some b).bind fun y17 => some y17) else some false) : Option Bool) = some (isFR N l[i]) := by
   unfold isFR; rw [hb]; cases decide (l[i].Kind = 10) <;> cases b <;> rfl
  rw [he, bs]
  cases hw : isFR N l[i]
  ·rw [cf]
   refine go s ?_
   rw [← hnext l[i] (by unfold bareC; rw [hw]; rfl), h1, List.drop_eq_getElem_cons hi]
  ·rw [ct]
   have hb1 : b = true ∧ l[i].Kind = 10 := by
    unfold isFR at hw; rw [hb] at hw
    cases b <;> simp at hw
    exact ⟨rfl, hw⟩
   have h1m := ((hb2 hb1.1).2 hb1.2).1
   rw [req_pos ⟨by omega, by omega, by show (1 : Int).toNat ≤ _; exact h1m⟩, bs, r64 (a := (i : Int) + 1) (by omega) (by omega), Int.toNat_natCast, hset]
   refine go _ (hnext _ ?_)
   unfold bareC; rw [hw]; rfl
 ·rintro k s h1
  show Sat (reach_bare_c1_l6 N l (k + 1) s _) _
  rw [reach_bare_c1_l6_s, lt_f (by omega), cf]
  unfold reach_bare_c1_j4
  exact sat_some (by rw [h1]; simp)
def bareM (N : Nat) (m : DMemory) : DMemory := ⟨m.Young.map (bareC N), m.Old.map (bareC N)⟩
theorem Small.cell {m : DMemory} {roots : List DValue} (hs : Small m roots) {c : DCell} (h : c ∈ m.Young ++ m.Old) : c.Slots.length ≤ 600 ∧ c.More.length ≤ 600 := hs.cells c h
theorem bare_prog (N : Nat) (hN : 5000 < N) {m : DMemory} {roots : List DValue} (hs : Small m roots) : reach_bare_O N m = some (bareM N m) := by
 have h1 := hs.young
 have h2 := hs.old
 unfold reach_bare_O
 rw [bare_row N hN m.Young (by omega) fun c hc => hs.cell (List.mem_append_left _ hc), bs, bare_row N hN m.Old (by omega) fun c hc => hs.cell (List.mem_append_right _ hc), bs]; rfl
theorem cellAt_bare (N : Nat) (m : DMemory) (a : Int) : cellAt (bareM N m) a = (cellAt m a).map (bareC N) := by
 unfold cellAt bareM
 split
 ·rfl
 ·split <;> simp
theorem hasM_bare (N : Nat) (m : DMemory) : hasM (bareM N m) = hasM m := by
 funext a; unfold hasM; rw [cellAt_bare]; cases cellAt m a <;> rfl
theorem atM_bare (N : Nat) (m : DMemory) (a : Int) (h : hasM m a = true) : atM (bareM N m) a = bareC N (atM m a) := by
 unfold atM; rw [cellAt_bare]
 unfold hasM at h
 cases hc : cellAt m a with
 | none => rw [hc] at h; cases h
 | some c => rfl
theorem Small.bare {m : DMemory} {roots : List DValue} (hs : Small m roots) (N : Nat) : Small (bareM N m) roots := by
 refine ⟨by unfold bareM; simpa using hs.young, by unfold bareM; simpa using hs.old, hs.roots, fun c hc => ?_⟩
 unfold bareM at hc
 rw [← List.map_append] at hc
 obtain ⟨d, hd, rfl⟩ := List.mem_map.1 hc
 have h1 := hs.cell hd
 have h2 := bareC_len N d
 omega
theorem W64.bare {m : DMemory} (hw : W64 m) (N : Nat) : W64 (bareM N m) := fun c hc v hv => by
 unfold bareM at hc
 rw [← List.map_append] at hc
 obtain ⟨d, hd, rfl⟩ := List.mem_map.1 hc
 exact hw d hd v (bareC_mem hv)
theorem in64_of {m : DMemory} {roots : List DValue} (hs : Small m roots) {x : Int} (h : hasM m x = true) : in64 x := by
 have h2 := hasM_pos h
 have h3 := hasM_le hs h
 unfold in64; omega
theorem pick_take {f : Nat → DValue → Bool} {x : Int} {k : Nat} : ∀ {i : Nat} {l : List DValue}, x ∈ pick f i (l.take k) → x ∈ pick f i l := by
 induction k with
 | zero => intro i l h; simp [pick] at h
 | succ k ih =>
  intro i l h
  cases l with
  | nil => exact h
  | cons v l =>
   rw [List.take_succ_cons, pick_cons] at h
   rw [pick_cons]
   rcases List.mem_append.1 h with h | h
   ·exact List.mem_append_left _ h
   ·exact List.mem_append_right _ (ih h)
theorem leads_bare {N : Nat} {c : DCell} {x : Int} (h : x ∈ leadsL (bareC N c)) : x ∈ leadsL c := by
 unfold bareC at h
 cases hw : isFR N c
 ·rw [hw] at h; exact h
 ·rw [hw] at h
  unfold leadsL at h ⊢
  rcases List.mem_append.1 h with h | h
  ·exact List.mem_append_left _ h
  ·exact List.mem_append_right _ (pick_take h)
theorem opens_mono {p q : Int → Bool} (hpq : ∀ x, p x = true → q x = true) {x : Int} : ∀ {l : List DValue}, x ∈ opens p l → x ∈ opens q l
 | [], h => by simp [opens] at h
 | [_], h => by simp [opens] at h
 | k :: v :: r, h => by
  rw [opens_cons] at h ⊢
  rcases List.mem_append.1 h with h | h
  ·refine List.mem_append_left _ ?_
   cases hk : p k.N with
   | false => rw [hk, Bool.and_false] at h; cases h
   | true => rw [hk] at h; rw [hpq _ hk]; exact h
  ·exact List.mem_append_right _ (opens_mono hpq h)
theorem opens_bare {N : Nat} {c : DCell} {row l : List Int} (hr : ∀ x ∈ row, x ∈ l) {x : Int} (h : x ∈ opensL N (bareC N c) row) : x ∈ opensL N c l := by
 unfold bareC at h
 cases hw : isFR N c
 ·rw [hw] at h
  unfold opensL at h ⊢
  cases hm : isWM N c
  ·rw [cf, hm] at h; cases h
  ·rw [cf, hm] at h
   exact opens_mono (fun x hx => by simp at hx ⊢; exact hr x hx) h
 ·exfalso
  rw [hw] at h
  have h10 : c.Kind = 10 := by unfold isFR at hw; simp at hw; exact hw.1
  unfold opensL isWM at h
  rw [ct, eq_f (by show c.Kind ≠ 8; omega)] at h
  cases h
end Go.Proofs.YtmbaennilhdieaaGreat
/- Plain: Alike holds where both sides are traversed alike and hold the same cells. -/
namespace Go.Proofs.YtmbaennilhdieaaGreat
open Go.RowKit
theorem addr_prog (N : Nat) (v : DValue) : reach_address_O N v = some (v.N, hasB v) := by
 unfold reach_address_O; rw [kind_has, bs]
end Go.Proofs.YtmbaennilhdieaaGreat
/- Plain: what a collection makes of cells. -/
namespace Go.Proofs.YtmbaennilhdieaaGreat
open Go.RowKit
def zeroV : DValue := ⟨0, 0, ⟨#[]⟩⟩
def keptE (l : List Int) : List DValue → List DValue
 | t :: h :: k :: s :: r => (bif decide (t.N ∈ l) then [t, h, (bif decide (k.Kind = 7) && !decide (k.N ∈ l) then zeroV else k), s] else []) ++ keptE l r
 | _ => []
def toldE (l : List Int) (cb : DValue) : List DValue → List DValue
 | t :: h :: _ :: s :: r => (bif decide (t.N ∈ l) then [] else [cb, h, s]) ++ toldE l cb r
 | _ => []
theorem keptE_cons (l : List Int) (t h k s : DValue) (r : List DValue) : keptE l (t :: h :: k :: s :: r) = (bif decide (t.N ∈ l) then [t, h, (bif decide (k.Kind = 7) && !decide (k.N ∈ l) then zeroV else k), s] else []) ++ keptE l r := Eq.trans rfl rfl
theorem cleanL_cons (p : Int → Bool) (k v : DValue) (r : List DValue) : cleanL p (k :: v :: r) = (bif p k.N then [k, v] else []) ++ cleanL p r := Eq.trans rfl rfl
theorem kt_len (l : List Int) (cb : DValue) : ∀ xs : List DValue, (keptE l xs).length + (toldE l cb xs).length ≤ xs.length
 | [] => by simp [keptE, toldE]
 | [_] => by simp [keptE, toldE]
 | [_, _] => by simp [keptE, toldE]
 | [_, _, _] => by simp [keptE, toldE]
 | t :: h :: k :: s :: r => by
  have := kt_len l cb r
  unfold keptE toldE
  cases decide (t.N ∈ l) <;> simp <;> omega
def cleanF (l : List Int) (c : DCell) : DCell × List DValue := (⟨c.Kind, c.Shape, c.Flags, c.Age, c.Slots, c.More.take 1 ++ keptE l (c.More.drop 1)⟩, toldE l (c.More.headD zeroV) (c.More.drop 1))
theorem four {l : List DValue} (h : 4 ≤ l.length) : ∃ t a k s r, l = t :: a :: k :: s :: r := by
 match l, h with
 | t :: a :: k :: s :: r, _ => exact ⟨t, a, k, s, r, rfl⟩
theorem fin_loop (N : Nat) (hN : 5000 < N) (l : List Int) (p : List (Int × Bool)) (hp : ∀ x, (lk p x).getD false = decide (x ∈ l)) (c y : DCell) (cb : DValue) (hcb : c.More[0]? = some cb) (hc : c.More.length ≤ 1000) : ∀ (m i : Nat) (o t : List DValue), c.More.length < m + i → i ≤ c.More.length → (c.More.length - i) % 4 = 0 → o.length ≤ i → t.length ≤ i → finreg_entries_c1_l4 N (liftR (fun x st => finreg_Clean_b28 N c p y x st)) c m (i : Int) (none, (o, t)) = some (none, (o ++ keptE l (c.More.drop i), t ++ toldE l cb (c.More.drop i)))
 | 0, i, o, t, h, h2, _, _, _ => by omega
 | m + 1, i, o, t, h, h2, h3, h4, h5 => by
  rw [finreg_entries_c1_l4_s, r64 (a := (i : Int) + 4) (by omega) (by omega)]
  by_cases hi : i + 4 ≤ c.More.length
  ·obtain ⟨v1, v2, v3, v4, r, hd⟩ := four (l := c.More.drop i) (by rw [List.length_drop]; omega)
   have hd4 : c.More.drop (i + 4) = r := by rw [← List.drop_drop, hd]; rfl
   have hx : (c.More.drop (i : Int).toNat).take (((i : Int) + 4).toNat - (i : Int).toNat) = [v1, v2, v3, v4] := by
    rw [Int.toNat_natCast, show ((i : Int) + 4).toNat - i = 4 by omega, hd]; rfl
   have h0 : getE c.More 0 = some cb := by
    have := getE_nat c.More 0
    rw [hcb] at this; exact this
   have e0 : getE [v1, v2, v3, v4] 0 = some v1 := rfl
   have e1 : getE [v1, v2, v3, v4] 1 = some v2 := rfl
   have e2 : getE [v1, v2, v3, v4] 2 = some v3 := rfl
   have e3 : getE [v1, v2, v3, v4] 3 = some v4 := rfl
   rw [le_t (by omega), ct, r64 (by omega) (by omega), r64 (by omega) (by omega), req_t ⟨by omega, by omega, by omega, by omega⟩, hx]
   have hb : liftR (fun x st => finreg_Clean_b28 N c p y x st) ((i : Int), [v1, v2, v3, v4]) (none, (o, t)) = some (true, (none, (o ++ (bif decide (v1.N ∈ l) then [v1, v2, (bif decide (v3.Kind = 7) && !decide (v3.N ∈ l) then zeroV else v3), v4] else []), t ++ (bif decide (v1.N ∈ l) then [] else [cb, v2, v4])))) := by
    unfold liftR finreg_Clean_b28
    simp only [e0, e1, e2, e3, bs, hp, h0]
    unfold finreg_Clean_j45
    simp only [e0, e1, e2, e3, bs]
    cases decide (v1.N ∈ l)
    ·simp only [nf, ct, cf, List.append_nil]
     rw [rF (by simp; omega)]; rfl
    ·simp only [nt, ct, cf, List.append_nil]
     rw [rF (by simp; omega), rF (by simp; omega)]
     cases decide (v3.Kind = 7) <;> cases decide (v3.N ∈ l) <;> rfl
   rw [hb, bs]
   simp only [nt, cf]
   rw [r64 (by omega) (by omega)]
   have := fin_loop N hN l p hp c y cb hcb hc m (i + 4) (o ++ (bif decide (v1.N ∈ l) then [v1, v2, (bif decide (v3.Kind = 7) && !decide (v3.N ∈ l) then zeroV else v3), v4] else [])) (t ++ (bif decide (v1.N ∈ l) then [] else [cb, v2, v4])) (by omega) hi (by omega) (by cases decide (v1.N ∈ l) <;> simp <;> omega) (by cases decide (v1.N ∈ l) <;> simp <;> omega)
   rw [show (((i + 4 : Nat)) : Int) = (i : Int) + 4 by omega] at this
   rw [this, hd4, hd, List.append_assoc, List.append_assoc]; rfl
  ·rw [le_f (by omega), cf, List.drop_eq_nil_of_le (by omega)]
   simp [keptE, toldE]
theorem isFR_ok (N : Nat) (hN : 2000 < N) (c : DCell) (hS : c.Slots.length ≤ 1000) (hc : c.More.length ≤ 1000) : finreg_is_O N c = some (isFR N c) ∧ (isFR N c = true → 1 ≤ c.More.length ∧ (c.More.length - 1) % 4 = 0) := by
 obtain ⟨b, hb, hb2⟩ := right_tot N hN c hS hc
 unfold finreg_is_O isFR
 rw [right_eq N hN c hS hc, hb]
 refine ⟨by cases decide (c.Kind = 10) <;> cases b <;> rfl, fun h => ?_⟩
 rw [Bool.and_eq_true, decide_eq_true_eq] at h
 exact (hb2 h.2).2 h.1
theorem finclean_prog (N : Nat) (hN : 5000 < N) (l : List Int) (hl : l.length ≤ 5000) (c : DCell) (hS : c.Slots.length ≤ 600) (hc : c.More.length ≤ 600) : finreg_Clean_O N c l = some (bif isFR N c then cleanF l c else (zeroC, [])) := by
 obtain ⟨h1, h2⟩ := isFR_ok N (by omega) c (by omega) (by omega)
 unfold finreg_Clean_O
 rw [h1, bs]
 cases hw : isFR N c
 ·rfl
 obtain ⟨g1, g2⟩ := h2 hw
 simp only [nt, cf, ct]
 have hcb : c.More[0]? = some (c.More.headD zeroV) := by
  cases hm : c.More with
  | nil => rw [hm] at g1; simp at g1
  | cons a r => rfl
 apply Sat.eq
 refine loop_inv (fun k i (s : List (Int × Bool)) => finreg_Clean_l15 N l c k (i : Int) s) l.length (fun i s => ∀ x, (lk s x).getD false = decide (x ∈ l.take i)) _ ?_ ?_ N 0 [] (by omega) (by omega) (fun x => by simp; rfl)
 ·intro k i s hi h3 go
  show Sat (finreg_Clean_l15 N l c (k + 1) (i : Int) s) _
  rw [finreg_Clean_l15_s, lt_t (by omega), ct, getE_n hi, bs, r64 (by omega) (by omega)]
  refine go _ fun x => ?_
  rw [lk_up, take_succ_get hi]
  by_cases e : l[i] = x
  ·rw [if_pos e, decide_eq_true (by simp [e])]; rfl
  ·rw [if_neg e, h3 x]
   by_cases hm : x ∈ l.take i
   ·rw [decide_eq_true hm, decide_eq_true (List.mem_append_left _ hm)]
   ·rw [decide_eq_false hm, decide_eq_false (by simp only [List.mem_append, List.mem_singleton]; exact fun h => h.elim hm fun h => e h.symm)]
 ·intro k s h3
  show Sat (finreg_Clean_l15 N l c (k + 1) _ s) _
  rw [List.take_length] at h3
  rw [finreg_Clean_l15_s, lt_f (by omega), cf]
  unfold finreg_Clean_j13 finreg_bare_O slices_Clone_O finreg_entries_O finreg_entries_c1_O
  have h0 : getE c.More 0 = some (c.More.headD zeroV) := by
   have := getE_nat c.More 0
   rw [hcb] at this; exact this
  rw [rF (by simp; omega), bs, h0, bs, bs, bs]
  have := fin_loop N hN l s h3 c ⟨c.Kind, c.Shape, c.Flags, c.Age, [] ++ c.Slots, [c.More.headD zeroV]⟩ _ hcb (by omega) N 1 [c.More.headD zeroV] [] (by omega) g1 g2 (by simp) (by simp)
  have this' : finreg_entries_c1_l4 N (liftR (fun x st => finreg_Clean_b28 N c s ⟨c.Kind, c.Shape, c.Flags, c.Age, [] ++ c.Slots, [c.More.headD zeroV]⟩ x st)) c N 1 (none, ([c.More.headD zeroV], [])) = _ := this
  rw [this', bs]
  refine sat_some ?_
  have ht : c.More.take 1 = [c.More.headD zeroV] := by
   cases hm : c.More with
   | nil => rw [hm] at g1; simp at g1
   | cons a r => rfl
  unfold cleanF
  rw [ht]; rfl
end Go.Proofs.YtmbaennilhdieaaGreat
/- Plain: the new order of a major collection. -/
namespace Go.Proofs.YtmbaennilhdieaaGreat
open Go.RowKit
def evenB (a : Int) : Bool := decide (a.tmod 2 = 0)
def oddB (a : Int) : Bool := decide (a.tmod 2 = 1)
def newOrd (live : List Int) : List Int := live.filter evenB ++ live.filter oddB
theorem filter_at {p : Int → Bool} : ∀ {l : List Int} {i : Nat} (hi : i < l.length), p l[i] = true → (l.filter p)[((l.take i).filter p).length]? = some l[i]
 | x :: l, 0, hi, h => by
  simp only [List.getElem_cons_zero] at h
  simp [h]
 | x :: l, i + 1, hi, h => by
  simp only [List.getElem_cons_succ] at h
  have ih := filter_at (l := l) (i := i) (by simpa using hi) h
  rw [List.take_succ_cons]
  cases hx : p x with
  | true => simp only [List.filter_cons, hx, if_true, List.length_cons, List.getElem?_cons_succ, List.getElem_cons_succ]; exact ih
  | false => simp only [List.filter_cons, hx, Bool.false_eq_true, if_false, List.getElem_cons_succ]; exact ih
theorem filter_next {p : Int → Bool} {l : List Int} {i : Nat} (hi : i < l.length) : ((l.take (i + 1)).filter p).length = ((l.take i).filter p).length + (bif p l[i] then 1 else 0) := by
 rw [take_succ_get hi, List.filter_append, List.length_append]
 cases h : p l[i] <;> simp [h]
theorem order_pass (N : Nat) {σ : Type} (φ : Int × Int → σ → Option (Option Exit × σ)) (live : List Int) (hl : live.length ≤ 2000) (hN : 5000 < N) (kb : Int → Int → Option Exit × σ → Option (Option Exit × σ)) (b : Int) (p : Int → Bool) (hp : ∀ a, p a = decide (a.tmod 2 = b)) (p6 : Int) (h6 : 0 ≤ p6 ∧ p6 ≤ 2) (n0 : Nat) (hn0 : n0 ≤ 2000)
  (Inv : Nat → σ → Prop) (R : Option Exit × σ → Prop)
  (hstep : ∀ i (hi : i < live.length) s, p live[i] = true → Inv (n0 + ((live.take i).filter p).length) s → Sat (φ (((n0 + ((live.take i).filter p).length : Nat) : Int), live[i]) s) fun r => r.1 = none ∧ Inv (n0 + ((live.take i).filter p).length + 1) r.2)
  (hk : ∀ s, Inv (n0 + (live.filter p).length) s → Sat (kb ((n0 + (live.filter p).length : Nat) : Int) (p6 + 1) (none, s)) R) (s : σ) (hs : Inv n0 s) : Sat (major_order_c1_l13 N kb (liftR φ) b p6 live N (n0 : Int) 0 (none, s)) R := by
 have hfl : ∀ i, ((live.take i).filter p).length ≤ 2000 := fun i => Nat.le_trans (List.length_filter_le _ _) (by rw [List.length_take]; omega)
 refine loop_inv (fun k i (st : Nat × σ) => major_order_c1_l13 N kb (liftR φ) b p6 live k (st.1 : Int) (i : Int) (none, st.2)) live.length (fun i st => st.1 = n0 + ((live.take i).filter p).length ∧ Inv st.1 st.2) _ ?_ ?_ N 0 (n0, s) (by omega) (by omega) ⟨by simp, hs⟩
 ·rintro k i ⟨n, st⟩ hi ⟨h1, h2⟩ go
  simp only at h1 h2
  have hb := hfl i
  show Sat (major_order_c1_l13 N kb (liftR φ) b p6 live (k + 1) (n : Int) (i : Int) (none, st)) _
  have hnx := filter_next (p := p) hi
  rw [major_order_c1_l13_s, lt_t (by omega), ct, getE_n hi, bs, ← hp]
  unfold major_order_c1_j18
  rw [r64 (a := (i : Int) + 1) (by omega) (by omega)]
  cases hq : p live[i]
  ·simp only [nf, ct]
   rw [hq] at hnx
   have hg := go (n, st) ⟨by show n = _; rw [hnx]; exact h1, h2⟩
   first | rw [r64 (a := (i : Int) + 1) (by omega) (by omega)] | skip
   exact hg
  ·simp only [nt, cf]
   rw [hq] at hnx
   obtain ⟨⟨e, s'⟩, g1, g2, g3⟩ := hstep i hi st hq (by rw [← h1]; exact h2)
   simp only at g2 g3
   subst g2
   have hf : liftR φ ((n : Int), live[i]) (none, st) = some (true, (none, s')) := by
    unfold liftR
    simp only
    rw [h1, g1]; rfl
   rw [hf, bs]
   simp only [nt, cf]
   rw [r64 (a := (n : Int) + 1) (by omega) (by omega)]
   have hg := go (n + 1, s') ⟨by show n + 1 = _; rw [hnx]; show n + 1 = _ + (_ + 1); omega, by show Inv (n + 1) s'; rw [h1]; exact g3⟩
   first | rw [r64 (a := (i : Int) + 1) (by omega) (by omega)] | skip
   exact hg
 ·rintro k ⟨n, st⟩ ⟨h1, h2⟩
  simp only [List.take_length] at h1 h2
  show Sat (major_order_c1_l13 N kb (liftR φ) b p6 live (k + 1) (n : Int) _ (none, st)) _
  rw [major_order_c1_l13_s, lt_f (by omega), cf]
  unfold major_order_c1_j9
  rw [r64 (by omega) (by omega), h1]
  exact hk st (by rw [← h1]; exact h2)
theorem order_loop (N : Nat) {σ : Type} (φ : Int × Int → σ → Option (Option Exit × σ)) (live : List Int) (hl : live.length ≤ 2000) (hN : 5000 < N)
  (Inv : Nat → σ → Prop) (hstep : ∀ n a s, (newOrd live)[n]? = some a → Inv n s → Sat (φ ((n : Int), a) s) fun r => r.1 = none ∧ Inv (n + 1) r.2) (s : σ) (hs : Inv 0 s) : Sat (major_order_c1_O N live (liftR φ) (none, s)) fun r => r.1 = none ∧ Inv (newOrd live).length r.2 := by
 obtain ⟨k, rfl⟩ : ∃ k, N = k + 3 := ⟨N - 3, by omega⟩
 have hev : (live.filter evenB).length ≤ 2000 := Nat.le_trans (List.length_filter_le _ _) hl
 unfold major_order_c1_O
 rw [major_order_c1_l4_s, show ((([0, 1] : List Int).length : Int)) = 2 from rfl, lt_t (by omega), ct, show getE ([0, 1] : List Int) 0 = some 0 from rfl, bs]
 refine order_pass (k + 3) φ live hl (by omega) _ 0 evenB (fun _ => rfl) 0 (by omega) 0 (by omega) Inv _ (fun i hi st hp hi2 => ?_) (fun st hst => ?_) s hs
 ·refine hstep _ _ _ ?_ hi2
  unfold newOrd
  rw [List.getElem?_append_left]
  ·rw [Nat.zero_add]; exact filter_at hi hp
  ·have := (List.getElem?_eq_some_iff.1 (filter_at hi hp)).1; omega
 ·rw [major_order_c1_l4_s, show ((([0, 1] : List Int).length : Int)) = 2 from rfl, lt_t (by omega), ct, show getE ([0, 1] : List Int) (0 + 1) = some 1 from rfl, bs]
  refine order_pass (k + 3) φ live hl (by omega) _ 1 oddB (fun _ => rfl) (0 + 1) (by omega) (0 + (live.filter evenB).length) (by omega) Inv _ (fun i hi st hp hi2 => ?_) (fun st hst => ?_) st hst
  ·refine hstep _ _ _ ?_ hi2
   unfold newOrd
   rw [List.getElem?_append_right (by omega), show 0 + (live.filter evenB).length + ((live.take i).filter oddB).length - (live.filter evenB).length = ((live.take i).filter oddB).length by omega]
   exact filter_at hi hp
  ·rw [major_order_c1_l4_s, show ((([0, 1] : List Int).length : Int)) = 2 from rfl, lt_f (by omega), cf]
   refine sat_some ⟨rfl, ?_⟩
   unfold newOrd
   rw [List.length_append]
   have e : 0 + (live.filter evenB).length + (live.filter oddB).length = (live.filter evenB).length + (live.filter oddB).length := by omega
   rw [← e]; exact hst
end Go.Proofs.YtmbaennilhdieaaGreat
/- Plain: when two sides correspond. -/
namespace Go.Proofs.YtmbaennilhdieaaGreat
open Go.RowKit
def corr (ha hb : Int → Bool) (A B : List Int) (v w : DValue) : Bool :=
 bif !hasB v || !hasB w then decide (v = w)
 else decide (v.Kind = w.Kind) && (v.S.toList == w.S.toList) && (bif !decide (v.N ∈ A) || !decide (w.N ∈ B) then !decide (v.N ∈ A) && !decide (w.N ∈ B) && (ha v.N == hb w.N) else decide (A.idxOf v.N = B.idxOf w.N))
def corrL (ha hb : Int → Bool) (A B : List Int) (x y : List DValue) : Bool := decide (x.length = y.length) && (x.zip y).all fun p => corr ha hb A B p.1 p.2
def corrC (ha hb : Int → Bool) (A B : List Int) (c d : DCell) : Bool := decide (c.Kind = d.Kind) && decide (c.Shape = d.Shape) && decide (c.Flags = d.Flags) && corrL ha hb A B c.Slots d.Slots && corrL ha hb A B c.More d.More
def alikeS (N : Nat) (a : DMemory) (x : List DValue) (A : List Int) (b : DMemory) (y : List DValue) (B : List Int) : Bool :=
 decide (A.length = B.length) && corrL (hasM a) (hasM b) A B x y && (A.zip B).all fun p => corrC (hasM a) (hasM b) A B (cleanW N A (atM a p.1)) (cleanW N B (atM b p.2))
def PosM (kv : List (Int × Int)) (l : List Int) : Prop := ∀ x, lk kv x = if x ∈ l then some (l.idxOf x : Int) else none
theorem lk_ent (kv : List (Int × Int)) (a z x : Int) (h : a ≠ x) : lk (entL kv a z) x = lk kv x := by
 unfold entL
 cases fp a kv 0 with
 | some _ => rfl
 | none => exact lk_app kv a z x h
theorem PosM.nil : PosM [] [] := fun x => rfl
theorem PosM.add {kv : List (Int × Int)} {l : List Int} {i : Nat} {L : List Int} (hi : i < L.length) (hl : l = L.take i) (h : PosM kv l) (hn : L.Nodup) : PosM (upL (entL kv L[i] 0) L[i] (i : Int)) (L.take (i + 1)) := by
 intro x
 have hlen : l.length = i := by rw [hl, List.length_take]; omega
 have hni : L[i] ∉ l := by
  rw [hl]
  intro hm
  obtain ⟨j, hj, e⟩ := List.getElem_of_mem hm
  rw [List.length_take] at hj
  rw [List.getElem_take] at e
  exact List.pairwise_iff_getElem.1 (List.nodup_iff_pairwise_ne.1 hn) j i (by omega) hi (by omega) e
 rw [lk_up, take_succ_get hi, ← hl, List.idxOf_append]
 by_cases e : L[i] = x
 ·rw [if_pos e, ← e, if_pos (List.mem_append_right _ (by simp)), if_neg hni]
  simp [hlen]
 ·rw [if_neg e, lk_ent _ _ _ _ e, h x]
  by_cases hm : x ∈ l
  ·rw [if_pos hm, if_pos (List.mem_append_left _ hm), if_pos hm]
  ·rw [if_neg hm, if_neg (by simp [hm]; exact fun h => e h.symm)]
theorem value_prog (N : Nat) (t : DTwins) (A B : List Int) (hA : PosM t.from_ A) (hB : PosM t.to_ B) (v w : DValue) (h1 : in64 v.N) (h2 : in64 w.N) : reach_twins_value_O N t v w = some (corr (hasM t.a_) (hasM t.b_) A B v w) := by
 unfold reach_twins_value_O corr
 simp only [addr_prog, bs, has_prog N _ _ h1, has_prog N _ _ h2, hA v.N, hB w.N]
 have eA : (if v.N ∈ A then some ((A.idxOf v.N : Nat) : Int) else none).isSome = decide (v.N ∈ A) := by
  by_cases h : v.N ∈ A <;> simp [h]
 have eB : (if w.N ∈ B then some ((B.idxOf w.N : Nat) : Int) else none).isSome = decide (w.N ∈ B) := by
  by_cases h : w.N ∈ B <;> simp [h]
 have eD : v.N ∈ A → w.N ∈ B → decide ((if v.N ∈ A then some ((A.idxOf v.N : Nat) : Int) else none).getD 0 = (if w.N ∈ B then some ((B.idxOf w.N : Nat) : Int) else none).getD 0) = decide (A.idxOf v.N = B.idxOf w.N) := fun g1 g2 => by
  rw [if_pos g1, if_pos g2]
  show decide (((A.idxOf v.N : Nat) : Int) = ((B.idxOf w.N : Nat) : Int)) = _
  by_cases h : A.idxOf v.N = B.idxOf w.N
  ·rw [decide_eq_true h, decide_eq_true (by omega)]
  ·rw [decide_eq_false h, decide_eq_false (by omega)]
 rw [eA, eB]
 by_cases g1 : v.N ∈ A <;> by_cases g2 : w.N ∈ B
 ·rw [eD g1 g2, decide_eq_true g1, decide_eq_true g2]
  cases hasB v <;> cases hasB w <;> cases decide (v.Kind = w.Kind) <;> cases (v.S.toList == w.S.toList) <;> rfl
 ·rw [decide_eq_true g1, decide_eq_false g2]
  cases hasB v <;> cases hasB w <;> cases decide (v.Kind = w.Kind) <;> cases (v.S.toList == w.S.toList) <;> rfl
 ·rw [decide_eq_false g1, decide_eq_true g2]
  cases hasB v <;> cases hasB w <;> cases decide (v.Kind = w.Kind) <;> cases (v.S.toList == w.S.toList) <;> rfl
 ·rw [decide_eq_false g1, decide_eq_false g2]
  cases hasB v <;> cases hasB w <;> cases decide (v.Kind = w.Kind) <;> cases (v.S.toList == w.S.toList) <;> rfl
theorem values_prog (N : Nat) (t : DTwins) (A B : List Int) (hA : PosM t.from_ A) (hB : PosM t.to_ B) (x y : List DValue) (hx : x.length < N) (hx2 : x.length ≤ 5000) (h1 : ∀ v ∈ x, in64 v.N) (h2 : ∀ v ∈ y, in64 v.N) : reach_twins_values_O N t x y = some (corrL (hasM t.a_) (hasM t.b_) A B x y) := by
 unfold reach_twins_values_O slices_EqualFunc_O
 have := zip_loop (fun k i => slices_EqualFunc_l5 N (fun x => reach_twins_value_O N t x.1 x.2) x y k i) x y (fun p => corr (hasM t.a_) (hasM t.b_) A B p.1 p.2) (fun k i h h' => ?_) (fun k => ?_) N hx
 ·rw [this, bs]; rfl
 ·rw [slices_EqualFunc_l5_s, lt_t (by omega), ct, getE_n h, bs, getE_n h', bs]
  simp only
  rw [value_prog N t A B hA hB _ _ (h1 _ (List.getElem_mem _)) (h2 _ (List.getElem_mem _)), bs, r64 (by omega) (by omega)]
  cases corr (hasM t.a_) (hasM t.b_) A B x[i] y[i] <;> rfl
 ·rw [slices_EqualFunc_l5_s, lt_f (by omega), cf]; rfl
structure SideOk (m : DMemory) (x : List DValue) (A : List Int) : Prop where
 small : Small m x
 w64 : W64 m
 x64 : ∀ v ∈ x, in64 v.N
 len : A.length ≤ 1200
 nd : A.Nodup
 has : ∀ a ∈ A, hasM m a = true
theorem SideOk.in64 {m : DMemory} {x : List DValue} {A : List Int} (h : SideOk m x A) {a : Int} (ha : a ∈ A) : Go.Proofs.YtmbaennilhdieaaGreat.in64 a := in64_of h.small (h.has a ha)
theorem SideOk.cell {m : DMemory} {x : List DValue} {A : List Int} (h : SideOk m x A) (N : Nat) (a : Int) : ((atM m a).Slots.length ≤ 600 ∧ (atM m a).More.length ≤ 600) ∧ ((cleanW N A (atM m a)).Slots.length ≤ 600 ∧ (cleanW N A (atM m a)).More.length ≤ 600) ∧ (∀ v ∈ (cleanW N A (atM m a)).Slots, Go.Proofs.YtmbaennilhdieaaGreat.in64 v.N) ∧ ∀ v ∈ (cleanW N A (atM m a)).More, Go.Proofs.YtmbaennilhdieaaGreat.in64 v.N := by
 have h1 := h.small.at_ a
 have h2 := cleanW_len N A (atM m a)
 exact ⟨h1, by omega, fun v hv => h.w64.at_ _ v (cleanW_mem (List.mem_append_left _ hv)), fun v hv => h.w64.at_ _ v (cleanW_mem (List.mem_append_right _ hv))⟩
theorem alike_prog (N : Nat) (hN : 5000 < N) {a b A B : DMemory} {x y : List DValue} {LA LB : List Int} (ba : reach_bare_O N a = some A) (bb : reach_bare_O N b = some B) (sA : SideOk A x LA) (sB : SideOk B y LB) (oa : reach_Order_O N A x = some LA) (ob : reach_Order_O N B y = some LB) : reach_Alike_O N a x b y = some (alikeS N A x LA B y LB) := by
 apply Sat.eq
 have hA := sA.len; have hB := sB.len; have hx := sA.small.roots; have hy := sB.small.roots
 unfold reach_Alike_O
 rw [ba, bs, bb, bs, oa, bs, ob, bs]
 by_cases hl : ¬ LA.length = LB.length
 ·rw [decide_eq_false (by omega)]
  exact sat_some (by unfold alikeS; rw [decide_eq_false hl]; rfl)
 replace hl : LA.length = LB.length := by omega
 rw [decide_eq_true (by omega)]
 simp only [nt, cf]
 refine loop_inv (fun k i (s : List (Int × Int) × List (Int × Int)) => reach_Alike_l33 N LA x y A B LB k (i : Int) s.1 s.2) LA.length (fun i s => PosM s.1 (LA.take i) ∧ PosM s.2 (LB.take i)) _ ?_ ?_ N 0 ([], []) (by omega) (by omega) ⟨PosM.nil, PosM.nil⟩
 ·rintro k i ⟨p, q⟩ hi ⟨h1, h2⟩ go
  simp only at h1 h2
  show Sat (reach_Alike_l33 N LA x y A B LB (k + 1) (i : Int) p q) _
  rw [reach_Alike_l33_s, lt_t (by omega), ct, getE_n hi, bs, getE_n (by omega), bs, r64 (by omega) (by omega)]
  exact go (_, _) ⟨h1.add hi rfl sA.nd, h2.add (by omega) rfl sB.nd⟩
 ·rintro k ⟨p, q⟩ ⟨h1, h2⟩
  simp only at h1 h2
  rw [List.take_length] at h1
  rw [hl, List.take_length] at h2
  show Sat (reach_Alike_l33 N LA x y A B LB (k + 1) _ p q) _
  rw [reach_Alike_l33_s, lt_f (by omega), cf]
  unfold reach_Alike_j30
  rw [values_prog N _ LA LB h1 h2 x y (by omega) (by omega) sA.x64 sB.x64, bs]
  have hz : (LA.zip LB).length = LA.length := by rw [List.length_zip]; omega
  have hloop : reach_Alike_l46 N LA A B p q N 0 LA LB = some ((LA.zip LB).all fun p => corrC (hasM A) (hasM B) LA LB (cleanW N LA (atM A p.1)) (cleanW N LB (atM B p.2))) := by
   refine loop_all (fun k i => reach_Alike_l46 N LA A B p q k i LA LB) (LA.zip LB) _ (fun k i h => ?_) (fun k => ?_) N (by omega)
   ·have hi : i < LA.length := by omega
    have hi' : i < LB.length := by omega
    obtain ⟨c1, c2, c3, c4⟩ := sA.cell N LA[i]
    obtain ⟨d1, d2, d3, d4⟩ := sB.cell N LB[i]
    have e1 : reach_At_O N A LA[i] = some (atM A LA[i]) := at_prog N sA.small _ (sA.in64 (List.getElem_mem _))
    have e2 : reach_At_O N B LB[i] = some (atM B LB[i]) := at_prog N sB.small _ (sB.in64 (List.getElem_mem _))
    rw [reach_Alike_l46_s, lt_t (by omega), ct, getE_n hi, bs, e1, bs, cleaned_prog N hN LA (by omega) _ c1.1 c1.2, bs, getE_n hi', bs, e2, bs, cleaned_prog N hN LB (by omega) _ d1.1 d1.2, bs, List.getElem_zip]
    simp only
    generalize cleanW N LA (atM A LA[i]) = c at *
    generalize cleanW N LB (atM B LB[i]) = d at *
    rw [values_prog N _ LA LB h1 h2 c.Slots d.Slots (by omega) (by omega) c3 d3, values_prog N _ LA LB h1 h2 c.More d.More (by omega) (by omega) c4 d4, r64 (by omega) (by omega)]
    unfold corrC
    simp only [bs]
    cases decide (c.Kind = d.Kind) <;> cases decide (c.Shape = d.Shape) <;> cases decide (c.Flags = d.Flags) <;> cases corrL (hasM A) (hasM B) LA LB c.Slots d.Slots <;> cases corrL (hasM A) (hasM B) LA LB c.More d.More <;> rfl
   ·show reach_Alike_l46 N LA A B p q (k + 1) _ LA LB = _
    rw [hz, reach_Alike_l46_s, lt_f (by omega), cf]; rfl
  rw [hloop]
  refine sat_not (fun h => sat_some ?_) fun h => sat_some ?_
  ·have h' : corrL (hasM A) (hasM B) LA LB x y = false := h
   unfold alikeS; rw [h', Bool.and_false]; rfl
  ·have h' : corrL (hasM A) (hasM B) LA LB x y = true := h
   unfold alikeS; rw [h', decide_eq_true hl]; rfl
end Go.Proofs.YtmbaennilhdieaaGreat
/- Plain: the reference's Alike. -/
namespace Go.Proofs.YtmbaennilhdieaaGreat
open Go.RowKit
theorem place_ref (N : Nat) (x : Int) (l : List Int) (hl : l.length < N) (hl2 : l.length ≤ 5000) : r19_place_O N l x = some (if x ∈ l then ((l.idxOf x : Nat) : Int) else -1) := by
 have key : ∀ k i : Nat, l.length < k + i → i ≤ l.length → r19_place_l3 N x l k (i : Int) = some (if x ∈ l.drop i then (((i + (l.drop i).idxOf x : Nat)) : Int) else -1) := by
  intro k
  induction k with
  | zero => intro i h1 h2; omega
  | succ k ih =>
   intro i h1 h2
   rw [r19_place_l3_s]
   by_cases hi : i < l.length
   ·have h3 := ih (i + 1) (by omega) hi
    rw [show (((i + 1 : Nat)) : Int) = (i : Int) + 1 by omega] at h3
    rw [lt_t (by omega), ct, getE_n hi, bs, List.drop_eq_getElem_cons hi, r64 (by omega) (by omega), h3, List.idxOf_cons]
    by_cases e : l[i] = x
    ·rw [decide_eq_true e, ct, if_pos (by simp [e]), beq_iff_eq.2 e, cond_true, Nat.add_zero]
    ·rw [decide_eq_false e, cf]
     by_cases hm : x ∈ l.drop (i + 1)
     ·rw [if_pos hm, if_pos (List.mem_cons_of_mem _ hm), beq_eq_false_iff_ne.2 e, cond_false, show i + 1 + (l.drop (i + 1)).idxOf x = i + ((l.drop (i + 1)).idxOf x + 1) by omega]
     ·rw [if_neg hm, if_neg (fun h => (List.mem_cons.1 h).elim (fun h => e h.symm) hm)]
   ·rw [lt_f (by omega), cf, List.drop_eq_nil_of_le (by omega)]; rfl
 have := key N 0 (by omega) (by omega)
 unfold r19_place_O
 simpa using this
theorem hasB_kind {v w : DValue} (h : v.Kind = w.Kind) : hasB v = hasB w := by unfold hasB; rw [h]
theorem values_ref (N : Nat) (a b : DSide) (hA : a.Order.length < N) (hA2 : a.Order.length ≤ 5000) (hB : b.Order.length < N) (hB2 : b.Order.length ≤ 5000) (hs1 : ∀ x ∈ a.Order, hasM a.M x = true) (hs2 : ∀ x ∈ b.Order, hasM b.M x = true) (x y : List DValue) (hx : x.length < N) (hx2 : x.length ≤ 5000) (h1 : ∀ v ∈ x, in64 v.N) (h2 : ∀ v ∈ y, in64 v.N) : r19_values_O N a x b y = some (corrL (hasM a.M) (hasM b.M) a.Order b.Order x y) := by
 unfold r19_values_O corrL
 refine zip_loop (fun k i => r19_values_l13 N x y a b k i) x y (fun p => corr (hasM a.M) (hasM b.M) a.Order b.Order p.1 p.2) (fun k i h h' => ?_) (fun k => ?_) N hx
 ·rw [r19_values_l13_s, lt_t (by omega), ct, getE_n h, getE_n h']
  simp only [bs]
  have g1 := h1 x[i] (List.getElem_mem _)
  have g2 := h2 y[i] (List.getElem_mem _)
  generalize x[i] = v at *
  generalize y[i] = w at *
  rw [kind_has v]
  simp only [bs, has_ref N _ _ g1, has_ref N _ _ g2, place_ref N v.N a.Order hA hA2, place_ref N w.N b.Order hB hB2]
  rw [r64 (by omega) (by omega)]
  unfold corr
  cases q1 : hasB v
  ·simp only [cf, nf, ct, bs, Bool.true_or]
   cases decide (v = w) <;> rfl
  ·cases q2 : hasB w
   ·have hk : v.Kind ≠ w.Kind := fun e => by rw [hasB_kind e, q2] at q1; cases q1
    have hne : v ≠ w := fun e => hk (by rw [e])
    rw [decide_eq_false hk, decide_eq_false hne]
    rfl
   ·simp only [nt, cf, bs, ct, Bool.or_self]
    cases decide (v.Kind = w.Kind)
    ·rfl
    ·cases (v.S.toList == w.S.toList)
     ·rfl
     ·simp only [nt, cf, bs, Bool.true_and]
      by_cases m1 : v.N ∈ a.Order <;> by_cases m2 : w.N ∈ b.Order
      ·rw [hs1 _ m1, hs2 _ m2, if_pos m1, if_pos m2, decide_eq_true m1, decide_eq_true m2]
       have e : decide (((a.Order.idxOf v.N : Nat) : Int) = ((b.Order.idxOf w.N : Nat) : Int)) = decide (a.Order.idxOf v.N = b.Order.idxOf w.N) := by
        by_cases e : a.Order.idxOf v.N = b.Order.idxOf w.N
        ·rw [decide_eq_true e, decide_eq_true (by omega)]
        ·rw [decide_eq_false e, decide_eq_false (by omega)]
       rw [e]
       cases decide (a.Order.idxOf v.N = b.Order.idxOf w.N) <;> rfl
      ·rw [hs1 _ m1, if_pos m1, if_neg m2, decide_eq_true m1, decide_eq_false m2]
       rw [decide_eq_false (p := ((a.Order.idxOf v.N : Nat) : Int) = -1) (by omega)]
       cases hasM b.M w.N <;> rfl
      ·rw [hs2 _ m2, if_neg m1, if_pos m2, decide_eq_false m1, decide_eq_true m2]
       rw [decide_eq_false (p := (-1 : Int) = ((b.Order.idxOf w.N : Nat) : Int)) (by omega)]
       cases hasM a.M v.N <;> rfl
      ·rw [if_neg m1, if_neg m2, decide_eq_false m1, decide_eq_false m2]
       rw [decide_eq_true (p := (-1 : Int) = -1) rfl]
       cases hasM a.M v.N <;> cases hasM b.M w.N <;> rfl
 ·show r19_values_l13 N x y a b (k + 1) _ = _
  rw [r19_values_l13_s, lt_f (by omega), cf]; rfl
def keepL (p : Int → Bool) : List DValue → List Bool
 | k :: _ :: r => p k.N :: keepL p r
 | _ => []
theorem keepL_len (p : Int → Bool) : ∀ l : List DValue, l.length % 2 = 0 → 2 * (keepL p l).length = l.length
 | [], _ => rfl
 | [_], h => by simp at h
 | k :: v :: r, h => by
  have := keepL_len p r (by simp at h; omega)
  simp [keepL]; omega
theorem rkeep_loop (N : Nat) (hN : 5000 < N) (l : List Int) (hl : l.length ≤ 5000) (c : DCell) (hc : c.More.length ≤ 1000) (he : c.More.length % 2 = 0) : ∀ (m i : Nat) (s : List Bool), c.More.length < m + i → i ≤ c.More.length → i % 2 = 0 → s.length ≤ i → r17_Clean_l12 N l c m s (i : Int) = r17_Clean_j10 N c (s ++ keepL (fun x => decide (x ∈ l)) (c.More.drop i))
 | 0, i, s, h, h2, _, _ => by omega
 | m + 1, i, s, h, h2, h3, h4 => by
  rw [r17_Clean_l12_s]
  by_cases hi : i < c.More.length
  ·have hi1 : i + 1 < c.More.length := by omega
   rw [lt_t (by omega), ct, getE_n hi, bs, in17 N hN l hl, bs, rF (by simp; omega), r64 (by omega) (by omega)]
   have := rkeep_loop N hN l hl c hc he m (i + 2) (s ++ [decide (c.More[i].N ∈ l)]) (by omega) (by omega) (by omega) (by simp; omega)
   rw [show (((i + 2 : Nat)) : Int) = (i : Int) + 2 by omega] at this
   rw [this, List.drop_eq_getElem_cons hi, List.drop_eq_getElem_cons hi1, List.append_assoc]; rfl
  ·rw [lt_f (by omega), cf, List.drop_eq_nil_of_le (by omega)]
   simp [keepL]
theorem keepL_at (p : Int → Bool) : ∀ (l : List DValue) (j : Nat) (h : 2 * j + 1 < l.length), (keepL p l)[j]? = some (p (l[2 * j]'(by omega)).N)
 | k :: v :: r, 0, _ => rfl
 | k :: v :: r, j + 1, h => by
  have := keepL_at p r j (by simp at h; omega)
  simp only [keepL, List.getElem?_cons_succ]
  rw [this]
  simp only [show 2 * (j + 1) = 2 * j + 1 + 1 by omega, List.getElem_cons_succ]
 | [_], j, h => by simp at h
 | [], j, h => by simp at h
theorem rwithout_loop (N : Nat) (p : Int → Bool) (c y : DCell) (hc : c.More.length ≤ 1000) (he : c.More.length % 2 = 0) (hN : 5000 < N) : ∀ (m j : Nat) (s : List DValue), c.More.length < 2 * (m + j) → 2 * j ≤ c.More.length → s.length ≤ 2 * j → r17_without_l12 N (keepL p c.More) c y m (j : Int) s = r17_without_j10 N y (s ++ cleanL p (c.More.drop (2 * j)))
 | 0, j, s, h, h2, _ => by omega
 | m + 1, j, s, h, h2, h3 => by
  have hk := keepL_len p c.More he
  rw [r17_without_l12_s]
  by_cases hj : 2 * j < c.More.length
  ·have hj1 : 2 * j + 1 < c.More.length := by omega
   have hjk : j < (keepL p c.More).length := by omega
   have e0 := keepL_at p c.More j hj1
   rw [List.getElem?_eq_getElem hjk, Option.some.injEq] at e0
   rw [lt_t (by omega), ct, getE_n hjk, bs, e0]
   have g0 : getE c.More (2 * (j : Int)) = some c.More[2 * j] := by
    have := getE_n hj; rwa [show (((2 * j : Nat)) : Int) = 2 * (j : Int) by omega] at this
   have g1 : getE c.More (2 * (j : Int) + 1) = some c.More[2 * j + 1] := by
    have := getE_n hj1; rwa [show (((2 * j + 1 : Nat)) : Int) = 2 * (j : Int) + 1 by omega] at this
   unfold r17_without_j17
   have step := fun s' (hs' : s'.length ≤ 2 * (j + 1)) => rwithout_loop N p c y hc he hN m (j + 1) s' (by omega) (by omega) hs'
   rw [show (((j + 1 : Nat)) : Int) = (j : Int) + 1 by omega] at step
   have hd : cleanL p (c.More.drop (2 * j)) = (bif p c.More[2 * j].N then [c.More[2 * j], c.More[2 * j + 1]] else []) ++ cleanL p (c.More.drop (2 * (j + 1))) := by
    rw [List.drop_eq_getElem_cons hj, List.drop_eq_getElem_cons hj1]; rfl
   rw [hd]
   cases p c.More[2 * j].N
   ·rw [cf, cf, r64 (by omega) (by omega), step s (by omega)]; rfl
   ·rw [ct, ct, r64 (a := 2 * (j : Int)) (by omega) (by omega), g0, bs, r64 (a := 2 * (j : Int)) (by omega) (by omega), r64 (a := 2 * (j : Int) + 1) (by omega) (by omega), g1, bs, rF (by simp; omega), r64 (by omega) (by omega), step _ (by simp; omega), List.append_assoc]
  ·rw [lt_f (by omega), cf, List.drop_eq_nil_of_le (by omega)]
   simp [cleanL]
theorem clean_ref (N : Nat) (hN : 5000 < N) (l : List Int) (hl : l.length ≤ 5000) (c : DCell) (hS : c.Slots.length ≤ 600) (hc : c.More.length ≤ 600) : r17_Clean_O N c l = some (bif isWM N c then cleanW N l c else zeroC) := by
 obtain ⟨h1, -, h2⟩ := is_ref N (by omega) c (by omega) (by omega)
 unfold r17_Clean_O cleanW
 rw [h1, bs]
 cases hw : isWM N c
 ·rfl
 ·have e1 := rkeep_loop N hN l hl c (by omega) (h2 hw) N 0 [] (by omega) (by omega) rfl (by simp)
  have e2 := rwithout_loop N (fun x => decide (x ∈ l)) c c (by omega) (h2 hw) hN N 0 [] (by omega) (by omega) (by simp)
  have e1' : r17_Clean_l12 N l c N [] 0 = _ := e1
  have e2' : r17_without_l12 N (keepL (fun x => decide (x ∈ l)) c.More) c c N 0 [] = _ := e2
  have ec : r17_Copied_O N c = some c := by
   unfold r17_Copied_O
   rw [rF (by simp; omega), rF (by simp; omega)]; rfl
  simp only [nt, cf, ct]
  rw [e1']
  unfold r17_Clean_j10 r17_without_O
  rw [ec, bs]
  simp only [List.drop_zero, List.nil_append]
  rw [e2']
  rfl
theorem cleaned_ref (N : Nat) (hN : 5000 < N) (l : List Int) (hl : l.length ≤ 5000) (c : DCell) (hS : c.Slots.length ≤ 600) (hc : c.More.length ≤ 600) : r19_cleaned_O N c l = some (cleanW N l c) := by
 have h0 := clean_ref N hN l hl c hS hc
 unfold r19_cleaned_O
 rw [h0]
 unfold cleanW isWM
 obtain ⟨b, hb, -⟩ := right_tot N (by omega) c (by omega) (by omega)
 rw [hb]
 cases decide (c.Kind = 8) <;> cases b <;> rfl
theorem short_ref (N : Nat) (hN : 5000 < N) (l : List DCell) (hl : l.length ≤ 1000) (hc : ∀ c ∈ l, c.Slots.length ≤ 600 ∧ c.More.length ≤ 600) : r19_short_O N l = some (l.map (bareC N)) := by
 apply Sat.eq
 unfold r19_short_O
 refine loop_inv (fun k i (s : List DCell) => r19_short_l5 N l k s (i : Int)) l.length (fun i s => s = (l.take i).map (bareC N)) _ ?_ ?_ N 0 [] (by omega) (by omega) rfl
 ·rintro k i s hi h1 go
  show Sat (r19_short_l5 N l (k + 1) s (i : Int)) _
  have hci := hc l[i] (List.getElem_mem _)
  have hsl : s.length ≤ i := by rw [h1]; simp; omega
  have hnext : s ++ [bareC N l[i]] = (l.take (i + 1)).map (bareC N) := by rw [take_succ_get hi, List.map_append, ← h1]; rfl
  rw [r19_short_l5_s, lt_t (by omega), ct, getE_n hi, bs]
  obtain ⟨b, hb, hb2⟩ := right_tot N (by omega) l[i] (by omega) (by omega)
  rw [hb]
  have he : ((bif decide (l[i].Kind = 10) then ((some b).bind fun y17 => some y17) else some false) : Option Bool) = some (isFR N l[i]) := by
   unfold isFR; rw [hb]; cases decide (l[i].Kind = 10) <;> cases b <;> rfl
  rw [he, bs]
  unfold r19_short_j14
  cases hw : isFR N l[i]
  ·rw [cf, rF (by simp; omega), r64 (by omega) (by omega)]
   refine go _ ?_
   rw [← hnext]; unfold bareC; rw [hw]; rfl
  ·have hb1 : b = true ∧ l[i].Kind = 10 := by
    unfold isFR at hw; rw [hb] at hw
    cases b <;> simp at hw
    exact ⟨rfl, hw⟩
   have h1m := ((hb2 hb1.1).2 hb1.2).1
   rw [ct, req_pos ⟨by omega, by omega, by show (1 : Int).toNat ≤ _; exact h1m⟩, rF (by simp; omega), r64 (by omega) (by omega)]
   refine go _ ?_
   rw [← hnext]; unfold bareC; rw [hw]; rfl
 ·rintro k s h1
  show Sat (r19_short_l5 N l (k + 1) s _) _
  rw [r19_short_l5_s, lt_f (by omega), cf]
  exact sat_some (by rw [h1, List.take_length])
theorem side_ref (N : Nat) (hN : 5000 < N) {m : DMemory} {roots : List DValue} (hs : Small m roots) {L : List Int} (ho : r19_Order_O N (bareM N m) roots = some L) : r19_side_O N m roots = some ⟨bareM N m, L⟩ := by
 have h1 := hs.young
 have h2 := hs.old
 unfold r19_side_O
 rw [short_ref N hN m.Young (by omega) fun c hc => hs.cell (List.mem_append_left _ hc), bs, short_ref N hN m.Old (by omega) fun c hc => hs.cell (List.mem_append_right _ hc), bs]
 have ho' : r19_Order_O N ⟨m.Young.map (bareC N), m.Old.map (bareC N)⟩ roots = some L := ho
 rw [ho', bs]; rfl
theorem alike_ref (N : Nat) (hN : 5000 < N) {a b A B : DMemory} {x y : List DValue} {LA LB : List Int} (ba : r19_side_O N a x = some ⟨A, LA⟩) (bb : r19_side_O N b y = some ⟨B, LB⟩) (sA : SideOk A x LA) (sB : SideOk B y LB) : r19_Alike_O N a x b y = some (alikeS N A x LA B y LB) := by
 have hA := sA.len; have hB := sB.len; have hx := sA.small.roots; have hy := sB.small.roots
 unfold r19_Alike_O
 rw [ba, bs, bb, bs]
 simp only
 have hv := fun x y h1 h2 h3 h4 (_ : True) => values_ref N ⟨A, LA⟩ ⟨B, LB⟩ (by show LA.length < N; omega) (by show LA.length ≤ 5000; omega) (by show LB.length < N; omega) (by show LB.length ≤ 5000; omega) sA.has sB.has x y h1 h2 h3 h4
 by_cases hl : ¬ LA.length = LB.length
 ·rw [decide_eq_false (by omega)]
  unfold alikeS; rw [decide_eq_false hl]; rfl
 replace hl : LA.length = LB.length := by omega
 have hz : (LA.zip LB).length = LA.length := by rw [List.length_zip]; omega
 have hloop : r19_Alike_l23 N N 0 A.Young A.Old LA B.Young B.Old LB = some ((LA.zip LB).all fun p => corrC (hasM A) (hasM B) LA LB (cleanW N LA (atM A p.1)) (cleanW N LB (atM B p.2))) := by
  refine loop_all (fun k i => r19_Alike_l23 N k i A.Young A.Old LA B.Young B.Old LB) (LA.zip LB) _ (fun k i h => ?_) (fun k => ?_) N (by omega)
  ·have hi : i < LA.length := by omega
   have hi' : i < LB.length := by omega
   obtain ⟨c1, c2, c3, c4⟩ := sA.cell N LA[i]
   obtain ⟨d1, d2, d3, d4⟩ := sB.cell N LB[i]
   have e1 : r19_At_O N ⟨A.Young, A.Old⟩ LA[i] = some (atM A LA[i]) := at_ref N A _ (sA.in64 (List.getElem_mem _))
   have e2 : r19_At_O N ⟨B.Young, B.Old⟩ LB[i] = some (atM B LB[i]) := at_ref N B _ (sB.in64 (List.getElem_mem _))
   rw [r19_Alike_l23_s, lt_t (by omega), ct, getE_n hi, bs, e1, bs, cleaned_ref N hN LA (by omega) _ c1.1 c1.2, bs, getE_n hi', bs, e2, bs, cleaned_ref N hN LB (by omega) _ d1.1 d1.2, bs, List.getElem_zip]
   simp only
   generalize cleanW N LA (atM A LA[i]) = c at *
   generalize cleanW N LB (atM B LB[i]) = d at *
   have v1 : r19_values_O N ⟨⟨A.Young, A.Old⟩, LA⟩ c.Slots ⟨⟨B.Young, B.Old⟩, LB⟩ d.Slots = _ := hv c.Slots d.Slots (by omega) (by omega) c3 d3 trivial
   have v2 : r19_values_O N ⟨⟨A.Young, A.Old⟩, LA⟩ c.More ⟨⟨B.Young, B.Old⟩, LB⟩ d.More = _ := hv c.More d.More (by omega) (by omega) c4 d4 trivial
   rw [v1, v2, r64 (by omega) (by omega)]
   unfold corrC
   simp only [bs]
   cases decide (c.Kind = d.Kind) <;> cases decide (c.Shape = d.Shape) <;> cases decide (c.Flags = d.Flags) <;> cases corrL (hasM A) (hasM B) LA LB c.Slots d.Slots <;> cases corrL (hasM A) (hasM B) LA LB c.More d.More <;> rfl
  ·show r19_Alike_l23 N (k + 1) _ A.Young A.Old LA B.Young B.Old LB = _
   rw [hz, r19_Alike_l23_s, lt_f (by omega), cf]; rfl
 have v0 := hv x y (by omega) (by omega) sA.x64 sB.x64 trivial
 rw [decide_eq_true (p := (LA.length : Int) = (LB.length : Int)) (by omega), v0, hloop]
 unfold alikeS
 rw [decide_eq_true hl]
 simp only [nt, cf, bs]
 cases corrL (hasM A) (hasM B) LA LB x y <;> rfl
end Go.Proofs.YtmbaennilhdieaaGreat
/- Plain: the major collection, as a function. -/
namespace Go.Proofs.YtmbaennilhdieaaGreat
open Go.RowKit
def addrC (c : DCell) : List Int := leadsL c ++ weaklyL c
def rightC (N : Nat) (c : DCell) : Bool := (r15_Right_O N c).getD false
theorem addrC_len (c : DCell) : (addrC c).length ≤ c.Slots.length + 2 * c.More.length := by
 have h1 := leadsL_len c
 have h2 := weaklyL_len c
 unfold addrC; rw [List.length_append]; omega
theorem flat_len : ∀ l : List DCell, (l.flatMap addrC).length ≤ 2 * wt l
 | [] => by simp [wt]
 | c :: l => by
  have h1 := flat_len l
  have h2 := addrC_len c
  rw [List.flatMap_cons, List.length_append, wt]; omega
theorem none_check (N : Nat) (m : DMemory) (l : List Int) (hl : l.length < N) (hl2 : l.length ≤ 5000) (h64 : ∀ x ∈ l, in64 x) : slices_ContainsFunc_O N l (fun x => major_check_c1_O N x m) = some (!wholeB m l) := by
 have key : ∀ k i : Nat, l.length < k + i → i ≤ l.length → Sat (slices_IndexFunc_l3 N (fun x => major_check_c1_O N x m) l k (i : Int)) fun r => decide (0 ≤ r) = !(l.drop i).all (hasM m) := by
  intro k
  induction k with
  | zero => intro i h1 h2; omega
  | succ k ih =>
   intro i h1 h2
   rw [slices_IndexFunc_l3_s]
   by_cases hi : i < l.length
   ·have h3 := ih (i + 1) (by omega) hi
    rw [show (((i + 1 : Nat)) : Int) = (i : Int) + 1 by omega] at h3
    rw [lt_t (by omega), ct, getE_n hi, bs, List.drop_eq_getElem_cons hi, List.all_cons]
    unfold major_check_c1_O
    rw [has_prog N m _ (h64 _ (List.getElem_mem _)), bs, bs, r64 (by omega) (by omega)]
    cases hasM m l[i]
    ·exact sat_some (by rw [decide_eq_true (by omega)]; rfl)
    ·exact h3
   ·rw [lt_f (by omega), cf, List.drop_eq_nil_of_le (by omega)]
    exact sat_some rfl
 obtain ⟨r, h1, h2⟩ := key N 0 (by omega) (by omega)
 have h1' : slices_IndexFunc_l3 N (fun x => major_check_c1_O N x m) l N 0 = some r := h1
 unfold slices_ContainsFunc_O slices_IndexFunc_O
 rw [h1', bs, h2]
 unfold wholeB
 simp
def checkM (N : Nat) (m : DMemory) (roots : List DValue) : Int :=
 bif (m.Young ++ m.Old).all (rightC N) then bif wholeB m ((m.Young ++ m.Old).flatMap addrC ++ addrL roots) then 0 else 50 else 51
theorem check_prog (N : Nat) (hN : 5000 < N) {m : DMemory} {roots : List DValue} (hs : Small m roots) (ht : Wtd m roots) (hw : W64 m) (hr : ∀ v ∈ roots, in64 v.N) : major_check_O N m roots = some (checkM N m roots) := by
 have hle := ht.le
 have h1 := hs.young; have h2 := hs.old; have h3 := hs.roots
 have a64 : ∀ (l : List DCell), (∀ c ∈ l, c ∈ m.Young ++ m.Old) → ∀ x ∈ l.flatMap addrC, in64 x := fun l hl x hx => by
  obtain ⟨c, hc, hx⟩ := List.mem_flatMap.1 hx
  obtain ⟨⟨-, g1⟩, -, g2⟩ := weakly_ok hs hw (hl c hc)
  exact (List.mem_append.1 hx).elim (g1 x) (g2 x)
 have r64' : ∀ x ∈ addrL roots, in64 x := fun x hx => by
  obtain ⟨v, h1, -, rfl⟩ := addrL_mem.1 hx
  exact hr v h1
 have hal : ∀ k, (addrL (roots.take k)).length ≤ roots.length := fun k => by
  unfold addrL; rw [List.length_map]; exact Nat.le_trans (List.length_filter_le _ _) (by rw [List.length_take]; omega)
 -- the roots
 have hroots : ∀ q : List Int, q.length + roots.length ≤ 4800 → (∀ x ∈ q, in64 x) → major_check_j5 N roots m q = some (bif wholeB m (q ++ addrL roots) then 0 else 50) := by
  intro q hq q64
  apply Sat.eq
  unfold major_check_j5
  refine loop_inv (fun k i (s : List Int) => major_check_l40 N roots m k s (i : Int)) roots.length (fun i s => s = q ++ addrL (roots.take i)) _ ?_ ?_ N 0 q (by omega) (by omega) (by simp [addrL])
  ·rintro k i s hi h1 go
   show Sat (major_check_l40 N roots m (k + 1) s (i : Int)) _
   have hnext : q ++ addrL (roots.take (i + 1)) = s ++ addrL [roots[i]] := by rw [take_succ_get hi, addrL_app, h1, List.append_assoc]
   have hsl : s.length ≤ 4800 := by have := hal i; rw [h1, List.length_append]; omega
   rw [major_check_l40_s, lt_t (by omega), ct, getE_n hi, bs, kind_has, bs]
   unfold major_check_j44
   cases hb : hasB roots[i]
   ·rw [cf, r64 (by omega) (by omega)]
    exact go s (by rw [hnext]; simp [addrL, hb])
   ·rw [ct, rF (by simp; omega), r64 (by omega) (by omega)]
    exact go _ (by rw [hnext]; simp [addrL, hb])
  ·rintro k s h1
   show Sat (major_check_l40 N roots m (k + 1) s _) _
   rw [List.take_length] at h1
   have hsl : s.length ≤ 4800 := by have := hal roots.length; rw [List.take_length] at this; rw [h1, List.length_append]; omega
   rw [major_check_l40_s, lt_f (by omega), cf]
   unfold major_check_j38
   rw [none_check N m s (by omega) (by omega) (fun x hx => by rw [h1] at hx; exact (List.mem_append.1 hx).elim (q64 x) (r64' x)), bs, ← h1]
   cases wholeB m s <;> exact sat_some rfl
 -- one row
 have row : ∀ (kb : List Int → Int → Option Int) (p : Int) (l : List DCell) (q : List Int), in64 (p + 1) → l.length ≤ 600 → wt l ≤ 2400 → (∀ c ∈ l, c ∈ m.Young ++ m.Old) → q.length ≤ 5000 → major_check_l17 N kb m p l roots N q 0 = bif l.all (rightC N) then kb (q ++ l.flatMap addrC) (p + 1) else some 51 := by
  intro kb p l q hp hll hl hl2 hq
  have key : ∀ (k i : Nat), l.length < k + i → i ≤ l.length → major_check_l17 N kb m p l roots k (q ++ (l.take i).flatMap addrC) (i : Int) = bif (l.drop i).all (rightC N) then kb (q ++ l.flatMap addrC) (p + 1) else some 51 := by
   intro k
   induction k with
   | zero => intro i h1 h2; omega
   | succ k ih =>
    intro i h4 h5
    have hfl := flat_len (l.take i)
    have hwt : wt (l.take i) ≤ wt l := by
     have := wt_app (l.take i) (l.drop i)
     rw [List.take_append_drop] at this; omega
    by_cases hi : i < l.length
    ·have hm := hl2 l[i] (List.getElem_mem _)
     have hc := hs.cells _ hm
     have hwi := wt_take hi
     have hwt2 : wt (l.take (i + 1)) ≤ wt l := by
      have := wt_app (l.take (i + 1)) (l.drop (i + 1))
      rw [List.take_append_drop] at this; omega
     obtain ⟨b, hb, -⟩ := right_tot N (by omega) l[i] (by omega) (by omega)
     have hrc : rightC N l[i] = b := by unfold rightC; rw [hb]; rfl
     have e1 := leadsL_len l[i]
     have e2 := weaklyL_len l[i]
     have h6 := ih (i + 1) (by omega) hi
     rw [show (((i + 1 : Nat)) : Int) = (i : Int) + 1 by omega] at h6
     rw [major_check_l17_s, lt_t (by omega), ct, getE_n hi, bs, right_eq N (by omega) _ (by omega) (by omega), hb, bs, leads_prog N (by omega) _ (by omega) (by omega), bs, List.length_append, rF (by omega), weakly_prog N (by omega) _ (by omega) (by omega), bs, List.length_append, List.length_append, rF (by omega), r64 (by omega) (by omega)]
     have hap : q ++ (l.take i).flatMap addrC ++ leadsL l[i] ++ weaklyL l[i] = q ++ (l.take (i + 1)).flatMap addrC := by
      rw [take_succ_get hi, List.flatMap_append]
      simp [addrC, List.append_assoc]
     rw [hap, h6, List.drop_eq_getElem_cons hi, List.all_cons, hrc]
     cases b <;> rfl
    ·have e : i = l.length := by omega
     subst e
     rw [major_check_l17_s, lt_f (by omega), cf, List.drop_length, List.take_length]
     unfold major_check_j13
     rw [req_t hp]; rfl
  have := key N 0 (by omega) (by omega)
  simpa using this
 have hwy : wt m.Young ≤ 2400 := by omega
 have hwo : wt m.Old ≤ 2400 := by omega
 have hfy := flat_len m.Young
 have hfo := flat_len m.Old
 obtain ⟨k, rfl⟩ : ∃ k, N = k + 3 := ⟨N - 3, by omega⟩
 unfold major_check_O checkM
 rw [major_check_l8_s, show ((([m.Young, m.Old] : List (List DCell)).length : Int)) = 2 from rfl, lt_t (by omega), ct, show getE ([m.Young, m.Old] : List (List DCell)) 0 = some m.Young from rfl, bs, row _ 0 m.Young [] (by unfold in64; omega) h1 hwy (fun c hc => List.mem_append_left _ hc) (by simp)]
 rw [major_check_l8_s, show ((([m.Young, m.Old] : List (List DCell)).length : Int)) = 2 from rfl, lt_t (by omega), ct, show getE ([m.Young, m.Old] : List (List DCell)) (0 + 1) = some m.Old from rfl, bs, List.nil_append, row _ (0 + 1) m.Old (m.Young.flatMap addrC) (by unfold in64; omega) h2 hwo (fun c hc => List.mem_append_right _ hc) (by omega)]
 rw [major_check_l8_s, show ((([m.Young, m.Old] : List (List DCell)).length : Int)) = 2 from rfl, lt_f (by omega), cf, hroots _ (by rw [List.length_append]; omega) (fun x hx => by
  rw [← List.flatMap_append] at hx
  exact a64 _ (fun c hc => hc) x hx), List.all_append, List.flatMap_append]
 cases m.Young.all (rightC (k + 3)) <;> cases m.Old.all (rightC (k + 3)) <;> rfl
def rho (f : List Int) (a : Int) : Int := 2 * ((f.idxOf a : Nat) : Int) + 2
def movV (ρ : Int → Int) (f : List Int) (v : DValue) : DValue := bif hasB v && decide (v.N ∈ f) then ⟨v.Kind, ρ v.N, v.S⟩ else v
def movC (ρ : Int → Int) (f : List Int) (c : DCell) : DCell := ⟨c.Kind, c.Shape, c.Flags, c.Age, c.Slots.map (movV ρ f), c.More.map (movV ρ f)⟩
def RhoM (kv : List (Int × Int)) (f : List Int) : Prop := ∀ x, lk kv x = if x ∈ f then some (rho f x) else none
theorem moved_prog (N : Nat) (hN : 5000 < N) (l : List DValue) (hl : l.length ≤ 5000) (kv : List (Int × Int)) (f : List Int) (hk : RhoM kv f) : major_moved_O N l kv = some (l.map (movV (rho f) f)) := by
 apply Sat.eq
 unfold major_moved_O
 refine loop_inv (fun k i (s : List DValue) => major_moved_l5 N l kv k s (i : Int)) l.length (fun i s => s = (l.take i).map (movV (rho f) f)) _ ?_ ?_ N 0 [] (by omega) (by omega) rfl
 ·rintro k i s hi h1 go
  show Sat (major_moved_l5 N l kv (k + 1) s (i : Int)) _
  have hsl : s.length ≤ i := by rw [h1, List.length_map, List.length_take]; omega
  have hnext : (l.take (i + 1)).map (movV (rho f) f) = s ++ [movV (rho f) f l[i]] := by rw [take_succ_get hi, List.map_append, h1]; rfl
  rw [major_moved_l5_s, lt_t (by omega), ct, getE_n hi, bs, hk l[i].N, kind_has]
  unfold major_moved_j12
  by_cases hm : l[i].N ∈ f
  ·rw [if_pos hm]
   simp only [bs, Option.isSome_some, ct]
   cases hb : hasB l[i]
   ·rw [cf, rF (by simp; omega), r64 (by omega) (by omega)]
    refine go _ ?_
    rw [hnext]; unfold movV; rw [hb]; rfl
   ·rw [ct, rF (by simp; omega), r64 (by omega) (by omega)]
    refine go _ ?_
    rw [hnext]; unfold movV; rw [hb, decide_eq_true hm]; rfl
  ·rw [if_neg hm]
   simp only [bs, Option.isSome_none, cf]
   rw [rF (by simp; omega), r64 (by omega) (by omega)]
   refine go _ ?_
   rw [hnext]; unfold movV; rw [decide_eq_false hm, Bool.and_false]; rfl
 ·rintro k s h1
  show Sat (major_moved_l5 N l kv (k + 1) s _) _
  rw [major_moved_l5_s, lt_f (by omega), cf]
  exact sat_some (by rw [h1, List.take_length])
def clC (N : Nat) (l : List Int) (c : DCell) : DCell := bif decide (c.Kind = 8) then cleanW N l c else bif decide (c.Kind = 10) then (cleanF l c).1 else c
def told (l : List Int) (c : DCell) : List DValue := bif decide (c.Kind = 10) then (cleanF l c).2 else []
theorem clC_len (N : Nat) (l : List Int) (c : DCell) : (clC N l c).Slots.length = c.Slots.length ∧ (clC N l c).More.length + (told l c).length ≤ c.More.length := by
 unfold clC told
 by_cases h8 : c.Kind = 8
 ·rw [decide_eq_true h8, decide_eq_false (p := c.Kind = 10) (by omega)]
  have := cleanW_len N l c
  simp only [cond_true, cond_false, List.length_nil]; omega
 ·rw [decide_eq_false h8]
  by_cases h10 : c.Kind = 10
  ·rw [decide_eq_true h10]
   have := kt_len l (c.More.headD zeroV) (c.More.drop 1)
   rw [List.length_drop] at this
   unfold cleanF
   refine ⟨rfl, ?_⟩
   show (c.More.take 1 ++ keptE l (c.More.drop 1)).length + (toldE l (c.More.headD zeroV) (c.More.drop 1)).length ≤ c.More.length
   rw [List.length_append, List.length_take]
   cases hm : c.More with
   | nil => rw [hm] at this; simp [keptE, toldE]
   | cons a r => rw [hm] at this; simp only [List.length_cons] at this ⊢; omega
  ·rw [decide_eq_false h10]; simp
theorem RhoM.nil : RhoM [] [] := fun x => rfl
theorem RhoM.add {kv : List (Int × Int)} {i : Nat} {f : List Int} (hi : i < f.length) (h : RhoM kv (f.take i)) (hn : f.Nodup) : RhoM (upL kv f[i] (2 * (i : Int) + 2)) (f.take (i + 1)) := by
 intro x
 have hlen : (f.take i).length = i := by rw [List.length_take]; omega
 have hni : f[i] ∉ f.take i := by
  intro hm
  obtain ⟨j, hj, e⟩ := List.getElem_of_mem hm
  rw [List.length_take] at hj
  rw [List.getElem_take] at e
  exact List.pairwise_iff_getElem.1 (List.nodup_iff_pairwise_ne.1 hn) j i (by omega) hi (by omega) e
 rw [lk_up, take_succ_get hi]
 unfold rho
 rw [List.idxOf_append]
 by_cases e : f[i] = x
 ·rw [if_pos e, ← e, if_pos (List.mem_append_right _ (by simp)), if_neg hni]
  simp [hlen]
 ·rw [if_neg e, h x]
  by_cases hm : x ∈ f.take i
  ·rw [if_pos hm, if_pos (List.mem_append_left _ hm), if_pos hm]; rfl
  ·rw [if_neg hm, if_neg (by simp only [List.mem_append, List.mem_singleton]; exact fun hh => hh.elim hm fun hh => e hh.symm)]
structure Coll where
 next : DMemory
 now : List DValue
 gone : List DValue
def collS (N : Nat) (m : DMemory) (roots : List DValue) (live f : List Int) : Coll :=
 ⟨⟨[], f.map fun a => movC (rho f) f (clC N live (atM m a))⟩, roots.map (movV (rho f) f), (f.flatMap fun a => told live (atM m a)).map (movV (rho f) f)⟩
end Go.Proofs.YtmbaennilhdieaaGreat
/- Plain: valid cells stay valid when their addresses move and dead entries go. -/
namespace Go.Proofs.YtmbaennilhdieaaGreat
open Go.RowKit
structure Mild (g : DValue → DValue) : Prop where
 z : g vZ = vZ
 kind : ∀ v, (g v).Kind = v.Kind
 num : ∀ v, v.Kind = 3 → g v = v
 may : ∀ v, mayB v = true → mayB (g v) = true
section
variable {g : DValue → DValue} (h : Mild g)
include h
theorem Mild.at_ (l : List DValue) (i : Nat) : atL (l.map g) i = g (atL l i) := by
 unfold atL
 simp only [List.getD, List.getElem?_map]
 cases l[i]? with
 | none => exact h.z.symm
 | some v => rfl
theorem Mild.numB (v : DValue) (a b : Int) : Go.Proofs.YtmbaennilhdieaaGreat.numB (g v) a b = Go.Proofs.YtmbaennilhdieaaGreat.numB v a b := by
 unfold Go.Proofs.YtmbaennilhdieaaGreat.numB
 by_cases h3 : v.Kind = 3
 ·rw [h.num v h3]
 ·rw [h.kind, decide_eq_false h3]; rfl
theorem Mild.noneB (v : DValue) (k : Int) : Go.Proofs.YtmbaennilhdieaaGreat.noneB (g v) k = Go.Proofs.YtmbaennilhdieaaGreat.noneB v k := by
 unfold Go.Proofs.YtmbaennilhdieaaGreat.noneB; rw [h.kind]
theorem Mild.ent2 : ∀ l : List DValue, entB2 (l.map g) = entB2 l
 | [] => rfl
 | [_] => rfl
 | k :: v :: r => by
  simp only [List.map_cons]
  simp only [entB2_cons]
  rw [h.kind, h.kind, Mild.ent2 r]
theorem Mild.ent4 : ∀ l : List DValue, entB4 (l.map g) = entB4 l
 | [] => rfl
 | [_] => rfl
 | [_, _] => rfl
 | [_, _, _] => rfl
 | t :: v :: k :: s :: r => by
  simp only [List.map_cons]
  simp only [entB4_cons]
  rw [h.kind, h.kind, h.noneB, h.numB, Mild.ent4 r]
theorem Mild.slots (k sh fl : Int) (l : List DValue) : slotsB k sh fl (l.map g) = slotsB k sh fl l := by
 unfold slotsB
 simp only [List.length_map, h.at_, h.kind, h.noneB]
theorem Mild.more (k : Int) (l : List DValue) : moreB k (l.map g) = moreB k l := by
 unfold moreB
 rw [← List.map_drop, h.ent2, h.ent4]
 simp only [List.length_map, h.at_, h.kind, h.noneB, h.numB]
theorem Mild.all {l : List DValue} (hl : l.all mayB = true) : (l.map g).all mayB = true := by
 rw [List.all_eq_true] at hl ⊢
 intro v hv
 obtain ⟨w, hw, rfl⟩ := List.mem_map.1 hv
 exact h.may w (hl w hw)
theorem Mild.right {c : DCell} (hc : rightB c = true) : rightB ⟨c.Kind, c.Shape, c.Flags, c.Age, c.Slots.map g, c.More.map g⟩ = true := by
 unfold rightB at hc ⊢
 simp only [Bool.and_eq_true] at hc
 obtain ⟨h1, h2, h3, h4, h5⟩ := hc
 simp only [h.slots, h.more, h.all h2, h.all h3, h4, h5, Bool.and_true]
 simp only [Bool.and_eq_true]
 exact h1
end
theorem may_has {v : DValue} (hb : hasB v = true) : mayB v = ((v.S.toList == (⟨#[]⟩ : ByteArray).toList) && decide (1 ≤ v.N)) := by
 have hk : v.Kind = 7 ∨ v.Kind = 9 := by
  unfold hasB at hb
  rw [Bool.or_eq_true, decide_eq_true_eq, decide_eq_true_eq] at hb; exact hb
 unfold mayB r15_May_O
 rcases hk with hk | hk <;> rw [hk] <;> cases (v.S.toList == (⟨#[]⟩ : ByteArray).toList) <;> rfl
structure Ren (ρ : Int → Int) (f : List Int) : Prop where
 inj : ∀ a b, a ∈ f → b ∈ f → ρ a = ρ b → a = b
 pos : ∀ a ∈ f, 1 ≤ ρ a
theorem mov_mild {ρ : Int → Int} {f : List Int} (hρ : Ren ρ f) : Mild (movV ρ f) where
 z := rfl
 kind v := by unfold movV; cases hasB v && decide (v.N ∈ f) <;> rfl
 num v h := by
  have : hasB v = false := by unfold hasB; rw [h]; rfl
  unfold movV; rw [this]; rfl
 may v h := by
  cases hb : hasB v && decide (v.N ∈ f) with
  | false => unfold movV; rw [hb]; exact h
  | true =>
   have hb0 := (Bool.and_eq_true _ _ ▸ hb : hasB v = true ∧ decide (v.N ∈ f) = true)
   have hb1 := hb0.1
   have e : movV ρ f v = ⟨v.Kind, ρ v.N, v.S⟩ := by unfold movV; rw [hb]; rfl
   have hb2 : hasB (⟨v.Kind, ρ v.N, v.S⟩ : DValue) = true := hb1
   rw [e, may_has hb2]
   rw [may_has hb1, Bool.and_eq_true] at h
   rw [Bool.and_eq_true]
   exact ⟨h.1, decide_eq_true (hρ.pos _ (of_decide_eq_true hb0.2))⟩
theorem mov_right {ρ : Int → Int} {f : List Int} (hρ : Ren ρ f) {c : DCell} (h : rightB c = true) : rightB (movC ρ f c) = true := (mov_mild hρ).right h
theorem right_parts {c : DCell} (h : rightB c = true) : c.Slots.all mayB = true ∧ c.More.all mayB = true ∧ moreB c.Kind c.More = true := by
 unfold rightB at h
 simp only [Bool.and_eq_true] at h
 exact ⟨h.2.1, h.2.2.1, h.2.2.2.2⟩
theorem right_with {c : DCell} (h : rightB c = true) {m : List DValue} (h1 : m.all mayB = true) (h2 : moreB c.Kind m = true) : rightB ⟨c.Kind, c.Shape, c.Flags, c.Age, c.Slots, m⟩ = true := by
 unfold rightB at h ⊢
 simp only [Bool.and_eq_true] at h
 obtain ⟨g1, g2, g3, g4, g5⟩ := h
 simp only [g2, h1, g4, h2, Bool.and_true]
 simp only [Bool.and_eq_true]
 exact g1
theorem ent2_clean (p : Int → Bool) : ∀ {l : List DValue}, entB2 l = true → entB2 (cleanL p l) = true
 | [], _ => rfl
 | [_], h => by cases h
 | k :: v :: r, h => by
  rw [entB2_cons] at h
  rw [Bool.and_eq_true] at h
  have ih := ent2_clean p h.2
  simp only [cleanL_cons]
  cases p k.N
  ·exact ih
  ·show entB2 (k :: v :: cleanL p r) = true
   simp only [entB2_cons]
   rw [h.1, ih]; rfl
theorem ent4_kept (lv : List Int) : ∀ {l : List DValue}, entB4 l = true → entB4 (keptE lv l) = true
 | [], _ => rfl
 | [_], h => by cases h
 | [_, _], h => by cases h
 | [_, _, _], h => by cases h
 | t :: v :: k :: s :: r, h => by
  rw [entB4_cons] at h
  rw [Bool.and_eq_true, Bool.and_eq_true, Bool.and_eq_true, Bool.and_eq_true] at h
  obtain ⟨⟨⟨h1, h2⟩, h3, h4⟩, h5⟩ := h
  have ih := ent4_kept lv h5
  simp only [keptE_cons]
  cases decide (t.N ∈ lv)
  ·exact ih
  ·show entB4 (t :: v :: (bif decide (k.Kind = 7) && !decide (k.N ∈ lv) then zeroV else k) :: s :: keptE lv r) = true
   simp only [entB4_cons]
   have h6 : noneB (bif decide (k.Kind = 7) && !decide (k.N ∈ lv) then zeroV else k) 7 = true := by
    cases decide (k.Kind = 7) && !decide (k.N ∈ lv)
    ·exact h3
    ·rfl
   rw [h1, h2, h6, h4, ih]; rfl
theorem kept_mem (lv : List Int) {x : DValue} : ∀ {l : List DValue}, x ∈ keptE lv l → x ∈ l ∨ x = zeroV
 | [], h => by simp [keptE] at h
 | [_], h => by simp [keptE] at h
 | [_, _], h => by simp [keptE] at h
 | [_, _, _], h => by simp [keptE] at h
 | t :: v :: k :: s :: r, h => by
  simp only [keptE_cons] at h
  rcases List.mem_append.1 h with h | h
  ·cases hd : decide (t.N ∈ lv) with
   | false => rw [hd] at h; cases h
   | true =>
    rw [hd] at h
    cases hk : decide (k.Kind = 7) && !decide (k.N ∈ lv) with
    | false => rw [hk] at h; simp at h; rcases h with h | h | h | h <;> subst h <;> simp
    | true => rw [hk] at h; simp at h; rcases h with h | h | h | h <;> subst h <;> simp
  ·rcases kept_mem lv h with h | h
   ·exact .inl (by simp [h])
   ·exact .inr h
theorem may_zero : mayB zeroV = true := by kernel_rfl
theorem clC_right (N : Nat) (lv : List Int) {c : DCell} (h : rightB c = true) : rightB (clC N lv c) = true := by
 obtain ⟨h1, h2, h3⟩ := right_parts h
 unfold clC
 by_cases h8 : c.Kind = 8
 ·rw [eq_t h8, cond_true]
  unfold cleanW
  cases isWM N c
  ·exact h
  ·refine right_with h (m := cleanL (fun x => decide (x ∈ lv)) c.More) ?_ ?_
   ·rw [List.all_eq_true] at h2 ⊢
    exact fun v hv => h2 v (cleanL_mem hv)
   ·rw [h8] at h3 ⊢
    exact ent2_clean _ h3
 ·rw [eq_f h8, cond_false]
  by_cases h10 : c.Kind = 10
  ·rw [eq_t h10, cond_true]
   rw [h10] at h3
   have h3' : (decide (1 ≤ c.More.length) && decide ((atL c.More 0).Kind = 7) && entB4 (c.More.drop 1)) = true := h3
   simp only [Bool.and_eq_true, decide_eq_true_eq] at h3'
   obtain ⟨⟨g1, g2⟩, g3⟩ := h3'
   refine right_with h (m := c.More.take 1 ++ keptE lv (c.More.drop 1)) ?_ ?_
   ·rw [List.all_eq_true] at h2 ⊢
    intro v hv
    rcases List.mem_append.1 hv with hv | hv
    ·exact h2 v (List.mem_of_mem_take hv)
    ·rcases kept_mem lv hv with hv | rfl
     ·exact h2 v (List.mem_of_mem_drop hv)
     ·exact may_zero
   ·rw [h10]
    show (decide (1 ≤ (c.More.take 1 ++ keptE lv (c.More.drop 1)).length) && decide ((atL (c.More.take 1 ++ keptE lv (c.More.drop 1)) 0).Kind = 7) && entB4 ((c.More.take 1 ++ keptE lv (c.More.drop 1)).drop 1)) = true
    obtain ⟨a, r, hr⟩ : ∃ a r, c.More = a :: r := by
     cases hm : c.More with
     | nil => rw [hm] at g1; simp at g1
     | cons a r => exact ⟨a, r, rfl⟩
    rw [hr] at g2 g3 ⊢
    have e1 : (a :: r).take 1 ++ keptE lv ((a :: r).drop 1) = a :: keptE lv r := rfl
    rw [e1]
    have g3' : entB4 r = true := g3
    have g2' : a.Kind = 7 := g2
    simp only [Bool.and_eq_true, decide_eq_true_eq]
    exact ⟨⟨by simp, g2'⟩, ent4_kept lv g3'⟩
  ·rw [eq_f h10, cond_false]; exact h
end Go.Proofs.YtmbaennilhdieaaGreat
/- Plain: a traversal under a renaming of addresses. No program in sight. -/
namespace Go.Proofs.YtmbaennilhdieaaGreat
open Go.RowKit
structure MapG (g g' : Gr) (ρ : Int → Int) (S : Int → Prop) : Prop where
 inj : ∀ a b, S a → S b → ρ a = ρ b → a = b
 has : ∀ a, S a → g.has a = true ∧ g'.has (ρ a) = true
 leads : ∀ a, S a → g'.leads (ρ a) = (g.leads a).map ρ ∧ ∀ x ∈ g.leads a, S x
 opens : ∀ row a, (∀ x ∈ row, S x) → S a → g'.opens (row.map ρ) (ρ a) = (g.opens row a).map ρ ∧ ∀ x ∈ g.opens row a, S x
theorem map_mem {ρ : Int → Int} {S : Int → Prop} (inj : ∀ a b, S a → S b → ρ a = ρ b → a = b) {l : List Int} (hl : ∀ x ∈ l, S x) {a : Int} (ha : S a) : ρ a ∈ l.map ρ ↔ a ∈ l := by
 constructor
 ·intro h
  obtain ⟨b, hb, e⟩ := List.mem_map.1 h
  exact inj b a (hl b hb) ha e ▸ hb
 ·exact fun h => List.mem_map.2 ⟨a, h, rfl⟩
theorem MapG.lay {g g' : Gr} {ρ : Int → Int} {S : Int → Prop} (h : MapG g g' ρ S) : ∀ (l row : List Int), (∀ x ∈ row, S x) → (∀ x ∈ l, S x) → layL g'.has (row.map ρ) (l.map ρ) = (layL g.has row l).map ρ ∧ ∀ x ∈ layL g.has row l, S x
 | [], row, hr, _ => ⟨rfl, hr⟩
 | x :: l, row, hr, hl => by
  have hx := hl x (by simp)
  obtain ⟨h1, h2⟩ := h.has x hx
  rw [List.map_cons]
  unfold layL
  rw [h1, h2, Bool.true_and, Bool.true_and]
  by_cases hm : x ∈ row
  ·rw [decide_eq_true hm, decide_eq_true ((map_mem h.inj hr hx).2 hm)]
   exact h.lay l row hr fun y hy => hl y (by simp [hy])
  ·rw [decide_eq_false hm, decide_eq_false fun hh => hm ((map_mem h.inj hr hx).1 hh)]
   have := h.lay l (row ++ [x]) (fun y hy => (List.mem_append.1 hy).elim (hr y) fun hy => by rw [List.mem_singleton] at hy; subst hy; exact hx) fun y hy => hl y (by simp [hy])
   rw [List.map_append] at this
   exact this
theorem MapG.thr {g g' : Gr} {ρ : Int → Int} {S : Int → Prop} (h : MapG g g' ρ S) {row r : List Int} {k : Nat} (ht : Thr g row k r) : (∀ x ∈ row, S x) → Thr g' (row.map ρ) k (r.map ρ) ∧ ∀ x ∈ r, S x := by
 induction ht with
 | done hk => exact fun hr => ⟨.done (by simpa using hk), hr⟩
 | step ha _ ih =>
  rename_i row k a r _
  intro hr
  have hS := hr a (List.mem_of_getElem? ha)
  obtain ⟨l1, l2⟩ := h.leads a hS
  obtain ⟨g1, g2⟩ := h.lay (g.leads a) row hr l2
  obtain ⟨t1, t2⟩ := ih g2
  refine ⟨.step (a := ρ a) (by rw [List.getElem?_map, ha]; rfl) ?_, t2⟩
  rw [l1, g1]; exact t1
theorem MapG.pass {g g' : Gr} {ρ : Int → Int} {S : Int → Prop} (h : MapG g g' ρ S) : ∀ (avs row : List Int), (∀ x ∈ row, S x) → (∀ x ∈ avs, S x) → passL g' (row.map ρ) (avs.map ρ) = (passL g row avs).map ρ ∧ ∀ x ∈ passL g row avs, S x
 | [], row, hr, _ => ⟨rfl, hr⟩
 | a :: avs, row, hr, hl => by
  obtain ⟨l1, l2⟩ := h.opens row a hr (hl a (by simp))
  obtain ⟨g1, g2⟩ := h.lay (g.opens row a) row hr l2
  rw [List.map_cons]
  unfold passL
  rw [l1, g1]
  exact h.pass avs _ g2 fun y hy => hl y (by simp [hy])
theorem MapG.ord {g g' : Gr} {ρ : Int → Int} {S : Int → Prop} (h : MapG g g' ρ S) {row r : List Int} (ht : Ord g row r) : (∀ x ∈ row, S x) → Ord g' (row.map ρ) (r.map ρ) ∧ ∀ x ∈ r, S x := by
 induction ht with
 | done hp =>
  intro hr
  obtain ⟨g1, -⟩ := h.pass _ _ hr hr
  exact ⟨.done (by rw [g1, hp]), hr⟩
 | step hp h1 _ ih =>
  rename_i row r1 r _
  intro hr
  obtain ⟨g1, g2⟩ := h.pass _ _ hr hr
  obtain ⟨t1, t2⟩ := h.thr h1 g2
  obtain ⟨o1, o2⟩ := ih t2
  refine ⟨.step (r1 := r1.map ρ) ?_ ?_ o1, o2⟩
  ·rw [g1]
   intro e
   apply hp
   obtain ⟨t, e2⟩ := passL_app g row row
   have e3 := congrArg List.length e
   rw [List.length_map, List.length_map, e2, List.length_append] at e3
   have : t = [] := List.eq_nil_of_length_eq_zero (by omega)
   rw [e2, this, List.append_nil]
  ·rw [g1, List.length_map]; exact t1
theorem MapG.isOrder {g g' : Gr} {ρ : Int → Int} {S : Int → Prop} (h : MapG g g' ρ S) {roots b l : List Int} (ho : IsOrder g roots b l) (hr : ∀ x ∈ roots, S x) : IsOrder g' (roots.map ρ) (b.map ρ) (l.map ρ) ∧ ∀ x ∈ l, S x := by
 obtain ⟨h1, h2⟩ := ho
 obtain ⟨g1, g2⟩ := h.lay roots [] (fun _ h => by cases h) hr
 obtain ⟨t1, t2⟩ := h.thr h1 g2
 obtain ⟨o1, o2⟩ := h.ord h2 t2
 refine ⟨⟨?_, o1⟩, o2⟩
 have g1' : layL g'.has [] (roots.map ρ) = (layL g.has [] roots).map ρ := g1
 rw [g1']; exact t1
end Go.Proofs.YtmbaennilhdieaaGreat
/- Plain: sums over distinct addresses. -/
namespace Go.Proofs.YtmbaennilhdieaaGreat
open Go.RowKit
def sumF {α : Type} (g : α → Nat) : List α → Nat
 | [] => 0
 | a :: l => g a + sumF g l
theorem sumF_perm {α : Type} (g : α → Nat) {a b : List α} (h : a.Perm b) : sumF g a = sumF g b := by
 induction h with
 | nil => rfl
 | cons x _ ih => rw [sumF, sumF, ih]
 | swap x y l => rw [sumF, sumF, sumF, sumF]; omega
 | trans _ _ h1 h2 => rw [h1, h2]
theorem sumF_sub (g : Int → Nat) : ∀ {l L : List Int}, l.Nodup → (∀ x ∈ l, x ∈ L) → sumF g l ≤ sumF g L
 | [], _, _, _ => Nat.zero_le _
 | a :: l, L, hn, hs => by
  obtain ⟨h1, h2⟩ := List.nodup_cons.1 hn
  have hp := List.perm_cons_erase (hs a (by simp))
  rw [sumF_perm g hp, sumF, sumF]
  have := sumF_sub g (l := l) (L := L.erase a) h2 fun x hx => (List.mem_erase_of_ne (fun e : x = a => h1 (by rw [← e]; exact hx))).2 (hs x (by simp [hx]))
  omega
theorem sumF_map {α β : Type} (g : β → Nat) (f : α → β) : ∀ l : List α, sumF g (l.map f) = sumF (fun x => g (f x)) l
 | [] => rfl
 | x :: l => by rw [List.map_cons, sumF, sumF, sumF_map g f l]
theorem sumF_le {α : Type} {g h : α → Nat} : ∀ {l : List α}, (∀ x ∈ l, g x ≤ h x) → sumF g l ≤ sumF h l
 | [], _ => Nat.le_refl _
 | x :: l, hh => by
  rw [sumF, sumF]
  have h1 := hh x (by simp)
  have h2 := sumF_le (l := l) fun y hy => hh y (by simp [hy])
  omega
theorem flatMap_len {α β : Type} (f : α → List β) : ∀ l : List α, (l.flatMap f).length = sumF (fun x => (f x).length) l
 | [] => rfl
 | x :: l => by rw [List.flatMap_cons, List.length_append, sumF, flatMap_len f l]
theorem sumF_add {α : Type} (g h : α → Nat) : ∀ l : List α, sumF (fun x => g x + h x) l = sumF g l + sumF h l
 | [] => rfl
 | x :: l => by rw [sumF, sumF, sumF, sumF_add g h l]; omega
def wC (c : DCell) : Nat := 1 + c.Slots.length + c.More.length
theorem wt_sum : ∀ l : List DCell, wt l = sumF wC l
 | [] => rfl
 | c :: l => by rw [wt, sumF, wt_sum l]; rfl
def allA (m : DMemory) : List Int := (List.range m.Young.length).map (fun i : Nat => 2 * (i : Int) + 1) ++ (List.range m.Old.length).map (fun i : Nat => 2 * (i : Int) + 2)
theorem atM_y (m : DMemory) (i : Nat) (h : i < m.Young.length) : atM m (2 * (i : Int) + 1) = m.Young[i] := by
 unfold atM cellAt
 rw [if_neg (by omega), if_pos (by omega), show ((2 * (i : Int) + 1 - 1) / 2).toNat = i by omega, List.getElem?_eq_getElem h]; rfl
theorem atM_o (m : DMemory) (i : Nat) (h : i < m.Old.length) : atM m (2 * (i : Int) + 2) = m.Old[i] := by
 unfold atM cellAt
 rw [if_neg (by omega), if_neg (by omega), show ((2 * (i : Int) + 2 - 2) / 2).toNat = i by omega, List.getElem?_eq_getElem h]; rfl
theorem hasM_y (m : DMemory) (i : Nat) : hasM m (2 * (i : Int) + 1) = decide (i < m.Young.length) := by
 unfold hasM cellAt
 rw [if_neg (by omega), if_pos (by omega), show ((2 * (i : Int) + 1 - 1) / 2).toNat = i by omega]
 by_cases h : i < m.Young.length
 ·rw [List.getElem?_eq_getElem h, decide_eq_true h]; rfl
 ·rw [List.getElem?_eq_none (by omega), decide_eq_false h]; rfl
theorem hasM_o (m : DMemory) (i : Nat) : hasM m (2 * (i : Int) + 2) = decide (i < m.Old.length) := by
 unfold hasM cellAt
 rw [if_neg (by omega), if_neg (by omega), show ((2 * (i : Int) + 2 - 2) / 2).toNat = i by omega]
 by_cases h : i < m.Old.length
 ·rw [List.getElem?_eq_getElem h, decide_eq_true h]; rfl
 ·rw [List.getElem?_eq_none (by omega), decide_eq_false h]; rfl
theorem allA_map (m : DMemory) : (allA m).map (atM m) = m.Young ++ m.Old := by
 unfold allA
 rw [List.map_append, List.map_map, List.map_map]
 congr 1
 ·refine List.ext_getElem (by simp) fun i h1 h2 => ?_
  simp only [List.getElem_map, List.getElem_range, Function.comp]
  exact atM_y m i h2
 ·refine List.ext_getElem (by simp) fun i h1 h2 => ?_
  simp only [List.getElem_map, List.getElem_range, Function.comp]
  exact atM_o m i h2
theorem hasM_form {m : DMemory} {a : Int} (h : hasM m a = true) : (∃ i : Nat, i < m.Young.length ∧ a = 2 * (i : Int) + 1) ∨ ∃ i : Nat, i < m.Old.length ∧ a = 2 * (i : Int) + 2 := by
 rcases addr_cases m a with ⟨h1, h2⟩ | ⟨k, h1, -⟩ | ⟨k, h1, -⟩
 ·unfold hasM at h; rw [h2] at h; cases h
 ·subst h1; rw [hasM_y] at h; exact .inl ⟨k, of_decide_eq_true h, rfl⟩
 ·subst h1; rw [hasM_o] at h; exact .inr ⟨k, of_decide_eq_true h, rfl⟩
theorem mem_allA {m : DMemory} {a : Int} (h : hasM m a = true) : a ∈ allA m := by
 unfold allA
 rcases hasM_form h with ⟨i, h1, rfl⟩ | ⟨i, h1, rfl⟩
 ·exact List.mem_append_left _ (List.mem_map.2 ⟨i, List.mem_range.2 h1, rfl⟩)
 ·exact List.mem_append_right _ (List.mem_map.2 ⟨i, List.mem_range.2 h1, rfl⟩)
theorem sum_addr {m : DMemory} {l : List Int} (hn : l.Nodup) (hh : ∀ a ∈ l, hasM m a = true) : sumF (fun a => wC (atM m a)) l ≤ wt m.Young + wt m.Old := by
 have h1 := sumF_sub (fun a => wC (atM m a)) hn fun a ha => mem_allA (hh a ha)
 have h2 := sumF_map wC (atM m) (allA m)
 rw [allA_map, ← wt_sum, wt_app] at h2
 omega
theorem atM_mem {m : DMemory} {a : Int} (h : hasM m a = true) : atM m a ∈ m.Young ++ m.Old := by
 unfold hasM at h
 unfold atM
 cases hc : cellAt m a with
 | none => rw [hc] at h; cases h
 | some c => exact cellAt_mem hc
end Go.Proofs.YtmbaennilhdieaaGreat
/- Plain: the forwarding addresses of a major collection. -/
namespace Go.Proofs.YtmbaennilhdieaaGreat
open Go.RowKit
def exP : DMemory := ⟨[⟨11, 0, 0, 0, [], [⟨7, 2, ⟨#[]⟩⟩]⟩, ⟨11, 0, 0, 0, [], []⟩], [⟨11, 0, 0, 0, [], []⟩, ⟨11, 0, 0, 0, [], []⟩]⟩
def exF : DMemory := ⟨[], [⟨10, 0, 0, 0, [⟨1, 0, ⟨#[]⟩⟩], [⟨7, 4, ⟨#[]⟩⟩, ⟨7, 6, ⟨#[]⟩⟩, ⟨7, 8, ⟨#[]⟩⟩, ⟨0, 0, ⟨#[]⟩⟩, ⟨3, 7, ⟨#[]⟩⟩]⟩, ⟨11, 0, 0, 0, [], []⟩, ⟨11, 0, 0, 0, [], []⟩, ⟨11, 0, 0, 0, [], []⟩]⟩
theorem oP : reach_Order_O 6000 exP [⟨7, 1, ⟨#[]⟩⟩] = some [1, 2] := by kernel_rfl
theorem oF : reach_Order_O 6000 exF [⟨7, 2, ⟨#[]⟩⟩] = some [2, 4, 8] := by kernel_rfl
theorem lP : reach_Live_O 6000 exP [⟨7, 1, ⟨#[]⟩⟩] = some [1, 2] := live_of oP (by decide) (sortL_eq (by decide) (by decide) (by intro x; simp))
theorem lF : reach_Live_O 6000 exF [⟨7, 2, ⟨#[]⟩⟩] = some [2, 4, 8] := live_of oF (by decide) (sortL_eq (by decide) (by decide) (by intro x; simp))
theorem pP : major_Places_O 6000 exP [⟨7, 1, ⟨#[]⟩⟩] = some ([2, 1], [2, 4]) := by
 unfold major_Places_O
 rw [lP, bs]
 kernel_rfl
theorem tmod_pos {a : Int} (h : 0 < a) : a.tmod 2 = 0 ∨ a.tmod 2 = 1 := by
 rw [tmod2 (by omega)]; omega
theorem newOrd_mem {live : List Int} (hp : ∀ a ∈ live, 0 < a) (a : Int) : a ∈ newOrd live ↔ a ∈ live := by
 unfold newOrd evenB oddB
 rw [List.mem_append, List.mem_filter, List.mem_filter, decide_eq_true_eq, decide_eq_true_eq]
 constructor
 ·rintro (h | h) <;> exact h.1
 ·intro h
  rcases tmod_pos (hp a h) with h2 | h2
  ·exact .inl ⟨h, h2⟩
  ·exact .inr ⟨h, h2⟩
theorem newOrd_len : ∀ {live : List Int}, (∀ a ∈ live, 0 < a) → (newOrd live).length = live.length
 | [], _ => rfl
 | a :: l, hp => by
  have ih := newOrd_len (live := l) fun b hb => hp b (by simp [hb])
  unfold newOrd at ih ⊢
  rw [List.length_append] at ih ⊢
  rcases tmod_pos (hp a (by simp)) with h | h
  ·have e1 : evenB a = true := decide_eq_true h
   have e2 : oddB a = false := decide_eq_false (by omega)
   simp only [List.filter_cons, e1, e2, if_true, Bool.false_eq_true, if_false, List.length_cons]; omega
  ·have e1 : evenB a = false := decide_eq_false (by omega)
   have e2 : oddB a = true := decide_eq_true h
   simp only [List.filter_cons, e1, e2, if_true, Bool.false_eq_true, if_false, List.length_cons]; omega
theorem newOrd_pw {live : List Int} (h : live.Pairwise (· < ·)) : (newOrd live).Pairwise fun a b => ¬ (a.tmod 2 = 1 ∧ b.tmod 2 = 0) ∧ (a.tmod 2 = b.tmod 2 → a < b) := by
 have hev : ∀ a ∈ live.filter evenB, a.tmod 2 = 0 := fun a ha => of_decide_eq_true (List.mem_filter.1 ha).2
 have hod : ∀ a ∈ live.filter oddB, a.tmod 2 = 1 := fun a ha => of_decide_eq_true (List.mem_filter.1 ha).2
 unfold newOrd
 refine List.pairwise_append.2 ⟨(h.filter _).imp_of_mem fun {a b} ha hb hlt => ⟨fun hh => ?_, fun _ => hlt⟩, (h.filter _).imp_of_mem fun {a b} ha hb hlt => ⟨fun hh => ?_, fun _ => hlt⟩, fun a ha b hb => ⟨fun hh => ?_, fun hh => ?_⟩⟩
 ·have := hev a ha; omega
 ·have := hod b hb; omega
 ·have := hev a ha; omega
 ·have := hev a ha; have := hod b hb; omega
theorem cP : major_Collect_O 6000 exP [⟨7, 1, ⟨#[]⟩⟩] = some (⟨[], [⟨11, 0, 0, 0, [], []⟩, ⟨11, 0, 0, 0, [], [⟨7, 2, ⟨#[]⟩⟩]⟩]⟩, [⟨7, 4, ⟨#[]⟩⟩], [], 0) := by
 unfold major_Collect_O
 rw [lP]
 kernel_rfl
theorem cF : major_Collect_O 6000 exF [⟨7, 2, ⟨#[]⟩⟩] = some (⟨[], [⟨10, 0, 0, 0, [⟨1, 0, ⟨#[]⟩⟩], [⟨7, 4, ⟨#[]⟩⟩]⟩, ⟨11, 0, 0, 0, [], []⟩, ⟨11, 0, 0, 0, [], []⟩]⟩, [⟨7, 2, ⟨#[]⟩⟩], [⟨7, 4, ⟨#[]⟩⟩, ⟨7, 6, ⟨#[]⟩⟩, ⟨3, 7, ⟨#[]⟩⟩], 0) := by
 unfold major_Collect_O
 rw [lF]
 kernel_rfl
theorem goes22_true : w22_goes_O 6000 = some true := by
 have h1 : major_Places_O 6000 (⟨([⟨11, 0, 0, 0, [], [⟨7, 2, ⟨#[]⟩⟩]⟩, ⟨11, 0, 0, 0, [], []⟩] : List DCell), ([⟨11, 0, 0, 0, [], []⟩, ⟨11, 0, 0, 0, [], []⟩] : List DCell)⟩ : DMemory) ([⟨7, 1, ⟨#[]⟩⟩] : List DValue) = some ([2, 1], [2, 4]) := pP
 have h2 : major_Collect_O 6000 (⟨([⟨11, 0, 0, 0, [], [⟨7, 2, ⟨#[]⟩⟩]⟩, ⟨11, 0, 0, 0, [], []⟩] : List DCell), ([⟨11, 0, 0, 0, [], []⟩, ⟨11, 0, 0, 0, [], []⟩] : List DCell)⟩ : DMemory) ([⟨7, 1, ⟨#[]⟩⟩] : List DValue) = _ := cP
 have h3 : major_Collect_O 6000 (⟨[], ([⟨10, 0, 0, 0, ([(⟨1, 0, ⟨#[]⟩⟩ : DValue)] : List DValue), ([⟨7, 4, ⟨#[]⟩⟩, ⟨7, 6, ⟨#[]⟩⟩, ⟨7, 8, ⟨#[]⟩⟩, (⟨0, 0, ⟨#[]⟩⟩ : DValue), (⟨3, 7, ⟨#[]⟩⟩ : DValue)] : List DValue)⟩, ⟨11, 0, 0, 0, [], []⟩, ⟨11, 0, 0, 0, [], []⟩, ⟨11, 0, 0, 0, [], []⟩] : List DCell)⟩ : DMemory) ([⟨7, 2, ⟨#[]⟩⟩] : List DValue) = _ := cF
 unfold w22_goes_O w22_object_O w22_goes_c1_O
 simp only [bs]
 rw [h1, bs, h2, bs, h3, bs]
 clear h1 h2 h3
 refine Eq.trans ?_ (Eq.refl (some true))
 kernel_rfl
end Go.Proofs.YtmbaennilhdieaaGreat
/- Plain: the program's major collection is the function. -/
namespace Go.Proofs.YtmbaennilhdieaaGreat
open Go.RowKit
theorem all_mem {α : Type} {p : α → Bool} {l : List α} (h : l.all p = true) {x : α} (hx : x ∈ l) : p x = true := List.all_eq_true.1 h x hx
theorem checkM_ok {N : Nat} {m : DMemory} {roots : List DValue} (h : checkM N m roots = 0) : (∀ c ∈ m.Young ++ m.Old, rightC N c = true) ∧ (∀ c ∈ m.Young ++ m.Old, ∀ x ∈ addrC c, hasM m x = true) ∧ ∀ x ∈ addrL roots, hasM m x = true := by
 unfold checkM at h
 cases h1 : (m.Young ++ m.Old).all (rightC N) with
 | false => rw [h1] at h; cases h
 | true =>
  rw [h1] at h
  cases h2 : wholeB m ((m.Young ++ m.Old).flatMap addrC ++ addrL roots) with
  | false => rw [h2] at h; cases h
  | true =>
   unfold wholeB at h2
   refine ⟨fun c hc => all_mem h1 hc, fun c hc x hx => all_mem h2 (List.mem_append_left _ (List.mem_flatMap.2 ⟨c, hc, hx⟩)), fun x hx => all_mem h2 (List.mem_append_right _ hx)⟩
structure Live (N : Nat) (m : DMemory) (roots : List DValue) (live f : List Int) : Prop where
 ord : ∃ b all, IsOrder (grM N m) (addrL roots) b all ∧ live = sortL all ∧ f = newOrd live
 prog : reach_Live_O N m roots = some live
 ref : r19_Live_O N m roots = some live
 mem : ∀ a, a ∈ f ↔ a ∈ live
 len : f.length = live.length
 small : live.length ≤ 1200
 nd : f.Nodup
 asc : live.Pairwise (· < ·)
 has : ∀ a ∈ live, hasM m a = true
theorem newOrd_nd {live : List Int} (h : live.Pairwise (· < ·)) : (newOrd live).Nodup := by
 rw [List.nodup_iff_pairwise_ne]
 refine (newOrd_pw h).imp fun {a b} hab e => ?_
 have := hab.2 (by rw [e])
 omega
theorem live_ok (N : Nat) (hN : 5000 < N) {m : DMemory} {roots : List DValue} (hs : Small m roots) (hw : W64 m) (hr : ∀ v ∈ roots, in64 v.N) : ∃ live f, Live N m roots live f := by
 obtain ⟨bg, all, ho, hlen, -, -, o0⟩ := order_fun N hN hs hw hr
 obtain ⟨b', all', ho', r0, -⟩ := rorder_fun N hN hs hw hr
 obtain ⟨-, e2⟩ := ho.det ho'
 subst e2
 have hll : (sortL all).length = all.length := sortL_len all
 have hmem := sortL_mem all
 have hasc := sortL_asc ho.nodup.2
 have hhas : ∀ a ∈ sortL all, hasM m a = true := fun a ha => ho.has.2 a ((hmem a).1 ha)
 have hpos : ∀ a ∈ sortL all, 0 < a := fun a ha => hasM_pos (hhas a ha)
 refine ⟨sortL all, newOrd (sortL all), ⟨⟨_, all, ho, rfl, rfl⟩, live_of o0 (by omega) rfl, ?_, newOrd_mem hpos, newOrd_len hpos, by omega, newOrd_nd hasc, hasc, hhas⟩⟩
 unfold r19_Live_O
 rw [r0, bs, rising_fun N hN all (by omega) ho.nodup.2, bs]
theorem Live.fhas {N : Nat} {m : DMemory} {roots : List DValue} {live f : List Int} (h : Live N m roots live f) {a : Int} (ha : a ∈ f) : hasM m a = true := h.has a ((h.mem a).1 ha)
theorem told_sum {N : Nat} {m : DMemory} {roots : List DValue} {live f : List Int} (h : Live N m roots live f) : (f.flatMap fun a => told live (atM m a)).length + wt (f.map fun a => movC (rho f) f (clC N live (atM m a))) ≤ wt m.Young + wt m.Old := by
 have h1 := sum_addr h.nd fun a ha => h.fhas ha
 rw [flatMap_len, wt_sum, sumF_map, ← sumF_add]
 refine Nat.le_trans (sumF_le fun a ha => ?_) h1
 have := clC_len N live (atM m a)
 unfold wC movC
 simp only [List.length_map]
 omega
theorem told_take {N : Nat} {m : DMemory} {roots : List DValue} {live f : List Int} (h : Live N m roots live f) (n : Nat) : ((f.take n).flatMap fun a => told live (atM m a)).length ≤ wt m.Young + wt m.Old := by
 have h1 := told_sum h
 have h2 : (f.flatMap fun a => told live (atM m a)) = ((f.take n).flatMap fun a => told live (atM m a)) ++ ((f.drop n).flatMap fun a => told live (atM m a)) := by rw [← List.flatMap_append, List.take_append_drop]
 rw [h2, List.length_append] at h1
 omega
def collR (N : Nat) (m : DMemory) (roots : List DValue) (live f : List Int) : DMemory × List DValue × List DValue × Int :=
 bif decide (checkM N m roots = 0) then ((collS N m roots live f).next, (collS N m roots live f).now, (collS N m roots live f).gone, 0) else (⟨[], []⟩, [], [], checkM N m roots)
theorem collect_prog (N : Nat) (hN : 5000 < N) {m : DMemory} {roots : List DValue} (hs : Small m roots) (ht : Wtd m roots) (hw : W64 m) (hr : ∀ v ∈ roots, in64 v.N) {live f : List Int} (hl : Live N m roots live f) : major_Collect_O N m roots = some (collR N m roots live f) := by
 apply Sat.eq
 have hle := ht.le
 have hlen := hl.small
 have hfl := hl.len
 unfold major_Collect_O collR
 rw [check_prog N hN hs ht hw hr, bs]
 by_cases h0 : ¬ checkM N m roots = 0
 ·rw [eq_f h0]; exact sat_some rfl
 replace h0 : checkM N m roots = 0 := by omega
 rw [eq_t h0]
 simp only [nt, cf, ct]
 obtain ⟨c1, c2, c3⟩ := checkM_ok h0
 obtain ⟨_, _, _, hlv, hff⟩ := hl.ord
 rw [hl.prog, bs]
 unfold major_order_O
 rw [bs]
 refine Sat.bind (order_loop N (fun x st => major_Collect_b20 N roots m live x st) live (by omega) hN (fun n s => RhoM s (f.take n)) ?_ [] ?_) ?_
 ·intro n a s ha h1
  rw [← hff] at ha
  have hn := (List.getElem?_eq_some_iff.1 ha).1
  rw [List.getElem?_eq_getElem hn, Option.some.injEq] at ha
  unfold major_Collect_b20
  simp only
  rw [r64 (by omega) (by omega), r64 (by omega) (by omega)]
  refine sat_some ⟨rfl, ?_⟩
  rw [← ha]
  exact h1.add hn hl.nd
 ·simpa using RhoM.nil
 rintro ⟨e, kv⟩ ⟨g1, g2⟩
 simp only at g1 g2
 subst g1
 rw [← hff, List.take_length] at g2
 unfold caseX
 simp only [bs]
 have hG : ∀ a ∈ f, (clC N live (atM m a)).Slots.length ≤ 600 ∧ (clC N live (atM m a)).More.length ≤ 600 := fun a ha => by
  have h1 := clC_len N live (atM m a)
  have h2 := hs.at_ a
  omega
 refine Sat.bind (order_loop N (fun x st => major_Collect_b27 N roots m live (none, kv) x st) live (by omega) hN (fun n s => s.1 = (f.take n).map (fun a => movC (rho f) f (clC N live (atM m a))) ∧ s.2 = (f.take n).flatMap fun a => told live (atM m a)) ?_ ([], []) ⟨by simp, by simp⟩) ?_
 ·rintro n a ⟨p, q⟩ ha ⟨h1, h2⟩
  rw [← hff] at ha
  simp only at h1 h2
  have hn := (List.getElem?_eq_some_iff.1 ha).1
  have ham : a ∈ f := List.mem_of_getElem? ha
  rw [List.getElem?_eq_getElem hn, Option.some.injEq] at ha
  have hpl : p.length ≤ 2000 := by rw [h1, List.length_map, List.length_take]; omega
  have hql : q.length ≤ 2400 := by have := told_take hl n; rw [h2]; omega
  have hq2 := told_take hl (n + 1)
  have hat := at_prog N hs a (in64_of hs (hl.fhas ham))
  have hsm := hs.at_ a
  have hrt := c1 _ (atM_mem (hl.fhas ham))
  have hc := hG a ham
  rw [take_succ_get hn, ha, List.flatMap_append, ← h2, List.length_append] at hq2
  simp only [List.flatMap_cons, List.flatMap_nil, List.append_nil] at hq2
  -- the last part
  have last : ∀ q', q' = q ++ told live (atM m a) → Sat (major_Collect_j37 N roots m p live (none, kv) q' (clC N live (atM m a)).Kind (clC N live (atM m a)).Shape (clC N live (atM m a)).Flags (clC N live (atM m a)).Age (clC N live (atM m a)).Slots (clC N live (atM m a)).More) fun r => r.1 = none ∧ r.2.1 = (f.take (n + 1)).map (fun a => movC (rho f) f (clC N live (atM m a))) ∧ r.2.2 = (f.take (n + 1)).flatMap fun a => told live (atM m a) := by
   intro q' hq'
   unfold major_Collect_j37
   rw [moved_prog N hN _ (by omega) kv f g2, bs, moved_prog N hN _ (by omega) kv f g2, bs, rF (by simp; omega)]
   refine sat_some ⟨rfl, ?_, ?_⟩
   ·rw [take_succ_get hn, List.map_append, ← h1, ha]; rfl
   ·rw [take_succ_get hn, List.flatMap_append, ← h2, ha, hq']; simp
  unfold major_Collect_b27
  simp only
  rw [hat, bs]
  unfold clC told at last
  unfold told at hq2
  by_cases h8 : (atM m a).Kind = 8
  ·have hwm : isWM N (atM m a) = true := by unfold isWM; rw [decide_eq_true h8]; exact hrt
   rw [eq_t h8, ct, clean_prog N hN live (by omega) _ hsm.1 hsm.2, bs, hwm, ct]
   rw [decide_eq_true h8, decide_eq_false (p := (atM m a).Kind = 10) (by omega)] at last
   simp only [cond_true, cond_false, List.append_nil] at last
   exact last q rfl
  ·by_cases h10 : (atM m a).Kind = 10
   ·have hwm : isFR N (atM m a) = true := by unfold isFR; rw [decide_eq_true h10]; exact hrt
    rw [eq_f h8, cf, eq_t h10, ct, finclean_prog N hN live (by omega) _ hsm.1 hsm.2, bs, hwm, ct]
    rw [decide_eq_true h10] at hq2
    rw [decide_eq_false h8, decide_eq_true h10] at last
    simp only [cond_true, cond_false] at last hq2
    rw [rF (by omega)]
    exact last _ rfl
   ·rw [eq_f h8, cf, eq_f h10, cf]
    rw [decide_eq_false h8, decide_eq_false h10] at last
    simp only [cond_true, cond_false, List.append_nil] at last
    exact last q rfl
 rintro ⟨e, p, q⟩ ⟨g1, g3, g4⟩
 simp only at g1 g3 g4
 subst g1
 rw [← hff, List.take_length] at g3 g4
 have hrl := hs.roots
 have hql : q.length ≤ 2400 := by have := told_take hl f.length; rw [List.take_length] at this; rw [g4]; omega
 simp only
 rw [moved_prog N hN _ (by omega) kv f g2, bs, moved_prog N hN _ (by omega) kv f g2, bs]
 refine sat_some ?_
 unfold collS
 rw [g3, g4]
end Go.Proofs.YtmbaennilhdieaaGreat
/- Plain: the cells that a major collection leaves, and the references in them. -/
namespace Go.Proofs.YtmbaennilhdieaaGreat
open Go.RowKit
theorem idx_lt {f : List Int} {a : Int} (h : a ∈ f) : f.idxOf a < f.length := List.idxOf_lt_length_iff.2 h
theorem idx_get {f : List Int} {a : Int} (h : a ∈ f) : f[f.idxOf a]'(idx_lt h) = a := List.getElem_idxOf (idx_lt h)
theorem rho_inj {f : List Int} {a b : Int} (ha : a ∈ f) (hb : b ∈ f) (h : rho f a = rho f b) : a = b := by
 unfold rho at h
 have e : f.idxOf a = f.idxOf b := by omega
 have h1 := idx_get ha
 have h2 := idx_get hb
 rw [← h1, ← h2]
 congr 1
theorem rho_ren (f : List Int) : Ren (rho f) f := ⟨fun _ _ h1 h2 h3 => rho_inj h1 h2 h3, fun a _ => by unfold rho; omega⟩
theorem idxOf_map {ρ : Int → Int} {f : List Int} (hρ : Ren ρ f) {a : Int} (ha : a ∈ f) : ∀ {A : List Int}, (∀ x ∈ A, x ∈ f) → (A.map ρ).idxOf (ρ a) = A.idxOf a
 | [], _ => rfl
 | x :: A, h => by
  rw [List.map_cons, List.idxOf_cons, List.idxOf_cons, idxOf_map hρ ha fun y hy => h y (by simp [hy])]
  by_cases e : x = a
  ·rw [beq_iff_eq.2 e, beq_iff_eq.2 (by rw [e])]
  ·rw [beq_eq_false_iff_ne.2 e, beq_eq_false_iff_ne.2 fun h' => e (hρ.inj _ _ (h x (by simp)) ha h')]
theorem rho_mem {ρ : Int → Int} {f : List Int} (hρ : Ren ρ f) {A : List Int} (h : ∀ x ∈ A, x ∈ f) {a : Int} (ha : a ∈ f) : ρ a ∈ A.map ρ ↔ a ∈ A := map_mem (S := (· ∈ f)) hρ.inj h ha
theorem mov_has (ρ : Int → Int) (f : List Int) (v : DValue) : hasB (movV ρ f v) = hasB v := hasB_kind (by unfold movV; cases hasB v && decide (v.N ∈ f) <;> rfl)
theorem mov_in {ρ : Int → Int} {f : List Int} {v : DValue} (h1 : hasB v = true) (h2 : v.N ∈ f) : movV ρ f v = ⟨v.Kind, ρ v.N, v.S⟩ := by
 unfold movV; rw [h1, decide_eq_true h2]; rfl
theorem mov_out {ρ : Int → Int} {f : List Int} {v : DValue} (h1 : hasB v = false) : movV ρ f v = v := by
 unfold movV; rw [h1]; rfl
theorem pick_map {ρ : Int → Int} {f : List Int} (F : Nat → DValue → Bool) (hF : ∀ i v, F i (movV ρ f v) = F i v) (hB : ∀ i v, F i v = true → hasB v = true) : ∀ (i : Nat) (l : List DValue), (∀ x ∈ pick F i l, x ∈ f) → pick F i (l.map (movV ρ f)) = (pick F i l).map ρ
 | _, [], _ => rfl
 | i, v :: l, h => by
  rw [pick_cons] at h
  rw [List.map_cons, pick_cons, pick_cons, hF, List.map_append, pick_map F hF hB (i + 1) l fun x hx => h x (List.mem_append_right _ hx)]
  cases hv : F i v with
  | false => rfl
  | true => rw [cond_true, cond_true, mov_in (hB i v hv) (h v.N (List.mem_append_left _ (by rw [hv]; simp)))]; rfl
theorem pick_in {F : Nat → DValue → Bool} : ∀ {i : Nat} {l : List DValue} {j : Nat} {v : DValue}, l[j]? = some v → F (i + j) v = true → v.N ∈ pick F i l
 | i, w :: l, 0, v, h, hF => by
  simp only [List.getElem?_cons_zero, Option.some.injEq] at h
  subst h
  rw [pick_cons]
  rw [Nat.add_zero] at hF
  rw [hF]; simp
 | i, w :: l, j + 1, v, h, hF => by
  simp only [List.getElem?_cons_succ] at h
  rw [pick_cons]
  exact List.mem_append_right _ (pick_in (i := i + 1) h (by rw [show i + 1 + j = i + (j + 1) by omega]; exact hF))
 | i, [], j, v, h, _ => by simp at h
def AddrIn (f : List Int) (l : List DValue) : Prop := ∀ v ∈ l, hasB v = true → v.N ∈ f
theorem slots_in {f : List Int} {c : DCell} (h : ∀ x ∈ leadsL c, x ∈ f) : AddrIn f c.Slots := fun v hv hb => by
 obtain ⟨j, hj, e⟩ := List.getElem_of_mem hv
 refine h _ (List.mem_append_left _ (pick_in (j := j) (by rw [List.getElem?_eq_getElem hj, e]) hb))
theorem more_in {f : List Int} {c : DCell} (h : ∀ x ∈ leadsL c, x ∈ f) {j : Nat} {v : DValue} (hj : c.More[j]? = some v) (hw : weakB c.Kind j = false) (hb : hasB v = true) : v.N ∈ f :=
 h _ (List.mem_append_right _ (pick_in (j := j) hj (by rw [Nat.zero_add, hw, hb]; rfl)))
theorem weak_other {k : Int} (h8 : k ≠ 8) (h10 : k ≠ 10) (i : Nat) : weakB k i = false := by
 unfold weakB; rw [eq_f h8, eq_f h10]; rfl
theorem cleanL_in {lv f : List Int} (hlv : ∀ x, x ∈ lv ↔ x ∈ f) : ∀ {l : List DValue}, entB2 l = true → (∀ x ∈ opens (fun x => decide (x ∈ lv)) l, x ∈ f) → AddrIn f (cleanL (fun x => decide (x ∈ lv)) l)
 | [], _, _ => fun v hv => by simp [cleanL] at hv
 | [_], h, _ => by cases h
 | k :: v :: r, h, ho => by
  rw [entB2_cons] at h
  rw [Bool.and_eq_true] at h
  rw [opens_cons] at ho
  have ih := cleanL_in hlv h.2 fun x hx => ho x (List.mem_append_right _ hx)
  intro w hw hb
  simp only [cleanL_cons] at hw
  rcases List.mem_append.1 hw with hw | hw
  ·cases hd : decide (k.N ∈ lv) with
   | false => rw [hd] at hw; cases hw
   | true =>
    rw [hd] at hw
    simp only [cond_true, List.mem_cons, List.not_mem_nil, or_false] at hw
    rcases hw with rfl | rfl
    ·exact (hlv _).1 (of_decide_eq_true hd)
    ·exact ho _ (List.mem_append_left _ (by rw [hb, hd]; simp))
  ·exact ih w hw hb
theorem kept_in {lv f : List Int} (hlv : ∀ x, x ∈ lv ↔ x ∈ f) : ∀ {l : List DValue}, entB4 l = true → (∀ j v, l[4 * j + 1]? = some v → hasB v = true → v.N ∈ f) → AddrIn f (keptE lv l)
 | [], _, _ => fun v hv => by simp [keptE] at hv
 | [_], h, _ => by cases h
 | [_, _], h, _ => by cases h
 | [_, _, _], h, _ => by cases h
 | t :: a :: k :: s :: r, h, ho => by
  rw [entB4_cons] at h
  simp only [Bool.and_eq_true, decide_eq_true_eq] at h
  obtain ⟨⟨⟨h1, -⟩, h3, h4⟩, h5⟩ := h
  have ih := kept_in hlv h5 fun j v hj hb => ho (j + 1) v (by rw [show 4 * (j + 1) + 1 = 4 * j + 1 + 4 by omega]; simpa using hj) hb
  intro w hw hb
  simp only [keptE_cons] at hw
  rcases List.mem_append.1 hw with hw | hw
  ·cases hd : decide (t.N ∈ lv) with
   | false => rw [hd] at hw; cases hw
   | true =>
    rw [hd] at hw
    simp only [cond_true, List.mem_cons, List.not_mem_nil, or_false] at hw
    rcases hw with rfl | rfl | rfl | rfl
    ·exact (hlv _).1 (of_decide_eq_true hd)
    ·exact ho 0 w rfl hb
    ·cases hk : decide (k.Kind = 7) && !decide (k.N ∈ lv) with
     | true => rw [hk] at hb; cases hb
     | false =>
      rw [hk] at hb
      simp only [cond_false] at hb ⊢
      have hk7 : k.Kind = 7 := by
       unfold noneB at h3
       rw [Bool.or_eq_true, decide_eq_true_eq, decide_eq_true_eq] at h3
       rcases h3 with h3 | h3
       ·unfold hasB at hb; rw [h3] at hb; cases hb
       ·exact h3
      rw [decide_eq_true hk7, Bool.true_and] at hk
      exact (hlv _).1 (by by_cases hm : k.N ∈ lv; exact hm; rw [decide_eq_false hm] at hk; cases hk)
    ·have : w.Kind = 3 := by
      unfold numB at h4
      rw [Bool.and_eq_true, decide_eq_true_eq] at h4; exact h4.1
     unfold hasB at hb; rw [this] at hb; cases hb
  ·exact ih w hw hb
theorem opens_map {ρ : Int → Int} {row lv f : List Int} (hρ : Ren ρ f) (hsub : ∀ x ∈ row, x ∈ lv) (hlv : ∀ x, x ∈ lv ↔ x ∈ f) : ∀ {l : List DValue}, entB2 l = true → (∀ x ∈ opens (fun x => decide (x ∈ row)) l, x ∈ f) → opens (fun x => decide (x ∈ row.map ρ)) ((cleanL (fun x => decide (x ∈ lv)) l).map (movV ρ f)) = (opens (fun x => decide (x ∈ row)) l).map ρ
 | [], _, _ => rfl
 | [_], h, _ => by cases h
 | k :: v :: r, h, ho => by
  rw [entB2_cons] at h
  rw [Bool.and_eq_true, Bool.and_eq_true, decide_eq_true_eq] at h
  rw [opens_cons] at ho
  have ih := opens_map hρ hsub hlv h.2 fun x hx => ho x (List.mem_append_right _ hx)
  have hk : hasB k = true := by unfold hasB; rw [h.1.1]; rfl
  have hrow : ∀ x ∈ row, x ∈ f := fun x hx => (hlv x).1 (hsub x hx)
  rw [opens_cons, List.map_append, ← ih]
  simp only [cleanL_cons]
  by_cases hd : k.N ∈ lv
  ·have hf := (hlv _).1 hd
   have e1 : decide (ρ k.N ∈ row.map ρ) = decide (k.N ∈ row) := dec_cast (rho_mem hρ hrow hf)
   rw [decide_eq_true hd, cond_true]
   show opens _ (movV ρ f k :: movV ρ f v :: (cleanL (fun x => decide (x ∈ lv)) r).map (movV ρ f)) = _
   rw [opens_cons, mov_has, mov_in hk hf]
   simp only [e1]
   congr 1
   cases hv : hasB v && decide (k.N ∈ row) with
   | false => rfl
   | true =>
    rw [Bool.and_eq_true] at hv
    have hvf := ho v.N (List.mem_append_left _ (by rw [hv.1, hv.2]; simp))
    rw [cond_true, cond_true, mov_in hv.1 hvf]; rfl
  ·have hnr : k.N ∉ row := fun hx => hd (hsub _ hx)
   rw [decide_eq_false hd, cond_false, List.nil_append, decide_eq_false hnr, Bool.and_false]; rfl
theorem clean_map {ρ : Int → Int} {A lv f : List Int} (hρ : Ren ρ f) (hsub : ∀ x ∈ A, x ∈ lv) (hlv : ∀ x, x ∈ lv ↔ x ∈ f) : ∀ {l : List DValue}, entB2 l = true → cleanL (fun x => decide (x ∈ A.map ρ)) ((cleanL (fun x => decide (x ∈ lv)) l).map (movV ρ f)) = (cleanL (fun x => decide (x ∈ A)) l).map (movV ρ f)
 | [], _ => rfl
 | [_], h => by cases h
 | k :: v :: r, h => by
  rw [entB2_cons] at h
  rw [Bool.and_eq_true, Bool.and_eq_true, decide_eq_true_eq] at h
  have ih := clean_map hρ hsub hlv h.2
  have hk : hasB k = true := by unfold hasB; rw [h.1.1]; rfl
  have hA : ∀ x ∈ A, x ∈ f := fun x hx => (hlv x).1 (hsub x hx)
  have hr : (cleanL (fun x => decide (x ∈ A)) (k :: v :: r)).map (movV ρ f) = (bif decide (k.N ∈ A) then [movV ρ f k, movV ρ f v] else []) ++ (cleanL (fun x => decide (x ∈ A)) r).map (movV ρ f) := by
   show ((bif decide (k.N ∈ A) then [k, v] else []) ++ cleanL (fun x => decide (x ∈ A)) r).map (movV ρ f) = _
   rw [List.map_append]; cases decide (k.N ∈ A) <;> rfl
  rw [hr, ← ih]
  by_cases hd : k.N ∈ lv
  ·have hf := (hlv _).1 hd
   have e1 : decide (ρ k.N ∈ A.map ρ) = decide (k.N ∈ A) := dec_cast (rho_mem hρ hA hf)
   have e2 : cleanL (fun x => decide (x ∈ lv)) (k :: v :: r) = k :: v :: cleanL (fun x => decide (x ∈ lv)) r := by
    show (bif decide (k.N ∈ lv) then [k, v] else []) ++ _ = _
    rw [decide_eq_true hd]; rfl
   rw [e2]
   show (bif decide ((movV ρ f k).N ∈ A.map ρ) then [movV ρ f k, movV ρ f v] else []) ++ _ = _
   have e3 : (movV ρ f k).N = ρ k.N := by rw [mov_in hk hf]
   rw [e3, e1]
  ·have e2 : cleanL (fun x => decide (x ∈ lv)) (k :: v :: r) = cleanL (fun x => decide (x ∈ lv)) r := by
    show (bif decide (k.N ∈ lv) then [k, v] else []) ++ _ = _
    rw [decide_eq_false hd]; rfl
   rw [e2, decide_eq_false fun hx => hd (hsub _ hx)]; rfl
theorem cleanL_sub {p q : Int → Bool} (h : ∀ x, p x = true → q x = true) {v : DValue} : ∀ {l : List DValue}, v ∈ cleanL p l → v ∈ cleanL q l
 | [], hv => by simp [cleanL] at hv
 | [_], hv => by simp [cleanL] at hv
 | k :: w :: r, hv => by
  simp only [cleanL_cons] at hv ⊢
  rcases List.mem_append.1 hv with hv | hv
  ·cases hp : p k.N with
   | false => rw [hp] at hv; cases hv
   | true => rw [hp] at hv; rw [h _ hp]; exact List.mem_append_left _ hv
  ·exact List.mem_append_right _ (cleanL_sub h hv)
end Go.Proofs.YtmbaennilhdieaaGreat
/- Plain: a cell before and after a major collection. -/
namespace Go.Proofs.YtmbaennilhdieaaGreat
open Go.RowKit
structure CellOk (N : Nat) (lv f : List Int) (c : DCell) : Prop where
 big : 2000 < N
 right : rightB c = true
 slots : c.Slots.length ≤ 600
 more : c.More.length ≤ 600
 leads : ∀ x ∈ leadsL c, x ∈ f
 opens : ∀ x ∈ opensL N c lv, x ∈ f
 mem : ∀ x, x ∈ lv ↔ x ∈ f
theorem isWM_right {N : Nat} (hN : 2000 < N) {c : DCell} (h : rightB c = true) (hS : c.Slots.length ≤ 600) (hM : c.More.length ≤ 600) : isWM N c = decide (c.Kind = 8) := by
 unfold isWM
 rw [right_spec N hN c (by omega) (by omega), h]
 cases decide (c.Kind = 8) <;> rfl
theorem isFR_right {N : Nat} (hN : 2000 < N) {c : DCell} (h : rightB c = true) (hS : c.Slots.length ≤ 600) (hM : c.More.length ≤ 600) : isFR N c = decide (c.Kind = 10) := by
 unfold isFR
 rw [right_spec N hN c (by omega) (by omega), h]
 cases decide (c.Kind = 10) <;> rfl
theorem rightC_B {N : Nat} (hN : 2000 < N) {c : DCell} (hS : c.Slots.length ≤ 600) (hM : c.More.length ≤ 600) : rightC N c = rightB c := by
 unfold rightC
 rw [right_spec N hN c (by omega) (by omega)]; rfl
section
variable {N : Nat} {ρ : Int → Int} {lv f : List Int} {c : DCell}
theorem clC_kind : (clC N lv c).Kind = c.Kind ∧ (clC N lv c).Shape = c.Shape ∧ (clC N lv c).Flags = c.Flags ∧ (clC N lv c).Slots = c.Slots := by
 unfold clC cleanW
 cases decide (c.Kind = 8) <;> cases decide (c.Kind = 10) <;> cases isWM N c <;> exact ⟨rfl, rfl, rfl, rfl⟩
theorem CellOk.new (hρ : Ren ρ f) (h : CellOk N lv f c) : rightB (movC ρ f (clC N lv c)) = true ∧ (movC ρ f (clC N lv c)).Slots.length ≤ 600 ∧ (movC ρ f (clC N lv c)).More.length ≤ 600 ∧ (movC ρ f (clC N lv c)).Kind = c.Kind := by
 have h1 := clC_len N lv c
 have h2 := h.slots
 have h3 := h.more
 exact ⟨mov_right hρ (clC_right N lv h.right), by unfold movC; simp only [List.length_map]; omega, by unfold movC; simp only [List.length_map]; omega, clC_kind.1⟩
theorem CellOk.ent2 (h : CellOk N lv f c) (h8 : c.Kind = 8) : entB2 c.More = true := by
 have := (right_parts h.right).2.2
 rw [h8] at this; exact this
theorem CellOk.ent4 (h : CellOk N lv f c) (h10 : c.Kind = 10) : 1 ≤ c.More.length ∧ (atL c.More 0).Kind = 7 ∧ entB4 (c.More.drop 1) = true := by
 have := (right_parts h.right).2.2
 rw [h10] at this
 have h3' : (decide (1 ≤ c.More.length) && decide ((atL c.More 0).Kind = 7) && entB4 (c.More.drop 1)) = true := this
 simp only [Bool.and_eq_true, decide_eq_true_eq] at h3'
 exact ⟨h3'.1.1, h3'.1.2, h3'.2⟩
theorem CellOk.wm (h : CellOk N lv f c) : isWM N c = decide (c.Kind = 8) := isWM_right h.big h.right h.slots h.more
theorem CellOk.fr (h : CellOk N lv f c) : isFR N c = decide (c.Kind = 10) := isFR_right h.big h.right h.slots h.more
theorem CellOk.clC8 (h : CellOk N lv f c) (h8 : c.Kind = 8) : clC N lv c = ⟨c.Kind, c.Shape, c.Flags, c.Age, c.Slots, cleanL (fun x => decide (x ∈ lv)) c.More⟩ := by
 unfold clC cleanW
 rw [h.wm, decide_eq_true h8]; rfl
theorem CellOk.clC10 (h10 : c.Kind = 10) : clC N lv c = ⟨c.Kind, c.Shape, c.Flags, c.Age, c.Slots, c.More.take 1 ++ keptE lv (c.More.drop 1)⟩ := by
 unfold clC
 rw [decide_eq_false (p := c.Kind = 8) (by omega), decide_eq_true h10]; rfl
theorem CellOk.clC0 (h8 : c.Kind ≠ 8) (h10 : c.Kind ≠ 10) : clC N lv c = c := by
 unfold clC
 rw [decide_eq_false h8, decide_eq_false h10]; rfl
theorem CellOk.bare10 (h : CellOk N lv f c) (h10 : c.Kind = 10) : bareC N c = ⟨c.Kind, c.Shape, c.Flags, c.Age, c.Slots, c.More.take 1⟩ := by
 unfold bareC; rw [h.fr, decide_eq_true h10]; rfl
theorem CellOk.bare0 (h : CellOk N lv f c) (h10 : c.Kind ≠ 10) : bareC N c = c := by
 unfold bareC; rw [h.fr, decide_eq_false h10]; rfl
theorem CellOk.bareG (hρ : Ren ρ f) (h : CellOk N lv f c) : bareC N (movC ρ f (clC N lv c)) = bif decide (c.Kind = 10) then movC ρ f (bareC N c) else movC ρ f (clC N lv c) := by
 obtain ⟨g1, g2, g3, g4⟩ := CellOk.new hρ h
 by_cases h10 : c.Kind = 10
 ·rw [decide_eq_true h10, cond_true, h.bare10 h10]
  have e : isFR N (movC ρ f (clC N lv c)) = true := by
   rw [isFR_right h.big g1 g2 g3, g4, decide_eq_true h10]
  unfold bareC
  rw [e, cond_true, CellOk.clC10 h10]
  unfold movC
  simp only [DCell.mk.injEq, true_and]
  obtain ⟨q1, -, -⟩ := h.ent4 h10
  obtain ⟨a, r, hr⟩ : ∃ a r, c.More = a :: r := by
   cases hm : c.More with
   | nil => rw [hm] at q1; simp at q1
   | cons a r => exact ⟨a, r, rfl⟩
  rw [hr]; rfl
 ·rw [decide_eq_false h10, cond_false]
  unfold bareC
  rw [isFR_right h.big g1 g2 g3, g4, decide_eq_false h10]; rfl
theorem leads8 {c : DCell} (h8 : c.Kind = 8) : leadsL c = pick (fun _ v => hasB v) 0 c.Slots := by
 unfold leadsL
 have e : (fun (i : Nat) (v : DValue) => !weakB c.Kind i && hasB v) = fun _ _ => false := by
  funext i v
  unfold weakB
  rw [h8]; rfl
 rw [e, pick_none, List.append_nil]
theorem leads_map {ρ : Int → Int} {c : DCell} {f : List Int} (h : ∀ x ∈ leadsL c, x ∈ f) : leadsL (movC ρ f c) = (leadsL c).map ρ := by
 unfold leadsL at h ⊢
 rw [List.map_append]
 show pick (fun _ v => hasB v) 0 (c.Slots.map (movV ρ f)) ++ pick (fun i v => !weakB c.Kind i && hasB v) 0 (c.More.map (movV ρ f)) = _
 rw [pick_map (fun _ v => hasB v) (fun _ v => mov_has ρ f v) (fun _ _ h => h) 0 c.Slots fun x hx => h x (List.mem_append_left _ hx), pick_map (fun i v => !weakB c.Kind i && hasB v) (fun i v => by rw [mov_has]) (fun i v h => ((Bool.and_eq_true _ _).mp h).2) 0 c.More fun x hx => h x (List.mem_append_right _ hx)]
theorem CellOk.leadsG (hρ : Ren ρ f) (h : CellOk N lv f c) : leadsL (bareC N (movC ρ f (clC N lv c))) = (leadsL (bareC N c)).map ρ ∧ ∀ x ∈ leadsL (bareC N c), x ∈ f := by
 have hb : ∀ x ∈ leadsL (bareC N c), x ∈ f := fun x hx => h.leads x (leads_bare hx)
 refine ⟨?_, hb⟩
 rw [CellOk.bareG hρ h]
 by_cases h10 : c.Kind = 10
 ·rw [decide_eq_true h10, cond_true]
  exact leads_map hb
 ·rw [decide_eq_false h10, cond_false]
  rw [h.bare0 h10] at hb ⊢
  by_cases h8 : c.Kind = 8
  ·rw [h.clC8 h8, leads8 (c := movC ρ f ⟨c.Kind, c.Shape, c.Flags, c.Age, c.Slots, cleanL (fun x => decide (x ∈ lv)) c.More⟩) h8, leads8 h8]
   rw [leads8 h8] at hb
   exact pick_map (fun _ v => hasB v) (fun _ v => mov_has ρ f v) (fun _ _ h => h) 0 c.Slots hb
  ·rw [CellOk.clC0 h8 h10]
   exact leads_map hb
theorem CellOk.opensG (hρ : Ren ρ f) (h : CellOk N lv f c) {row : List Int} (hrow : ∀ x ∈ row, x ∈ f) : opensL N (bareC N (movC ρ f (clC N lv c))) (row.map ρ) = (opensL N (bareC N c) row).map ρ ∧ ∀ x ∈ opensL N (bareC N c) row, x ∈ f := by
 have hb : ∀ x ∈ opensL N (bareC N c) row, x ∈ f := fun x hx => h.opens x (opens_bare (fun y hy => (h.mem y).2 (hrow y hy)) hx)
 refine ⟨?_, hb⟩
 obtain ⟨g1, g2, g3, g4⟩ := CellOk.new hρ h
 rw [CellOk.bareG hρ h]
 by_cases h10 : c.Kind = 10
 ·rw [decide_eq_true h10, cond_true, h.bare10 h10]
  unfold opensL isWM
  rw [show decide ((movC ρ f (⟨c.Kind, c.Shape, c.Flags, c.Age, c.Slots, c.More.take 1⟩ : DCell)).Kind = 8) = false from decide_eq_false (by show c.Kind ≠ 8; omega), show decide ((⟨c.Kind, c.Shape, c.Flags, c.Age, c.Slots, c.More.take 1⟩ : DCell).Kind = 8) = false from decide_eq_false (by show c.Kind ≠ 8; omega)]; rfl
 ·rw [decide_eq_false h10, cond_false]
  rw [h.bare0 h10] at hb ⊢
  unfold opensL at hb ⊢
  rw [isWM_right h.big g1 g2 g3, g4, h.wm]
  rw [h.wm] at hb
  by_cases h8 : c.Kind = 8
  ·rw [decide_eq_true h8] at hb ⊢
   rw [cond_true, cond_true, h.clC8 h8]
   exact opens_map hρ (fun x hx => (h.mem x).2 (hrow x hx)) h.mem (h.ent2 h8) hb
  ·rw [decide_eq_false h8]; rfl
theorem CellOk.cleanG (hρ : Ren ρ f) (h : CellOk N lv f c) {A : List Int} (hA : ∀ x ∈ A, x ∈ f) : cleanW N (A.map ρ) (bareC N (movC ρ f (clC N lv c))) = movC ρ f (cleanW N A (bareC N c)) := by
 obtain ⟨g1, g2, g3, g4⟩ := CellOk.new hρ h
 rw [CellOk.bareG hρ h]
 by_cases h10 : c.Kind = 10
 ·rw [decide_eq_true h10, cond_true, h.bare10 h10]
  unfold cleanW isWM
  rw [show decide ((movC ρ f (⟨c.Kind, c.Shape, c.Flags, c.Age, c.Slots, c.More.take 1⟩ : DCell)).Kind = 8) = false from decide_eq_false (by show c.Kind ≠ 8; omega), show decide ((⟨c.Kind, c.Shape, c.Flags, c.Age, c.Slots, c.More.take 1⟩ : DCell).Kind = 8) = false from decide_eq_false (by show c.Kind ≠ 8; omega)]; rfl
 ·rw [decide_eq_false h10, cond_false, h.bare0 h10]
  unfold cleanW
  rw [isWM_right h.big g1 g2 g3, g4, h.wm]
  by_cases h8 : c.Kind = 8
  ·rw [decide_eq_true h8, cond_true, cond_true, h.clC8 h8]
   unfold movC
   simp only [DCell.mk.injEq, true_and]
   exact clean_map hρ (fun x hx => (h.mem x).2 (hA x hx)) h.mem (h.ent2 h8)
  ·rw [decide_eq_false h8, cond_false, cond_false, CellOk.clC0 h8 h10]
theorem CellOk.inC (h : CellOk N lv f c) : AddrIn f (clC N lv c).Slots ∧ AddrIn f (clC N lv c).More := by
 refine ⟨by rw [clC_kind.2.2.2]; exact slots_in h.leads, ?_⟩
 by_cases h8 : c.Kind = 8
 ·rw [h.clC8 h8]
  have ho := h.opens
  unfold opensL at ho
  rw [h.wm, decide_eq_true h8, cond_true] at ho
  exact cleanL_in h.mem (h.ent2 h8) ho
 ·by_cases h10 : c.Kind = 10
  ·rw [CellOk.clC10 h10]
   obtain ⟨q1, q2, q3⟩ := h.ent4 h10
   obtain ⟨a, r, hr⟩ : ∃ a r, c.More = a :: r := by
    cases hm : c.More with
    | nil => rw [hm] at q1; simp at q1
    | cons a r => exact ⟨a, r, rfl⟩
   rw [hr] at q3
   have q3' : entB4 r = true := q3
   intro v hv hb
   have hv' : v = a ∨ v ∈ keptE lv r := by
    have : v ∈ a :: keptE lv r := by rw [hr] at hv; exact hv
    exact List.mem_cons.1 this
   rcases hv' with rfl | hv'
   ·refine more_in h.leads (j := 0) (by rw [hr]; rfl) ?_ hb
    unfold weakB; rw [h10]; rfl
   ·refine kept_in h.mem q3' (fun j w hj hw => more_in h.leads (j := 4 * j + 2) (by rw [hr, show 4 * j + 2 = (4 * j + 1) + 1 by omega, List.getElem?_cons_succ]; exact hj) ?_ hw) v hv' hb
    unfold weakB
    rw [h10]
    have e1 : (((4 * j + 2 : Nat) : Int) - 1).tmod 4 = 1 := by rw [Int.tmod_eq_emod_of_nonneg (by omega)]; omega
    have e2 : ((1 : Int)).tmod 2 = 1 := rfl
    rw [e1, e2]
    cases decide ((0 : Int) < ((4 * j + 2 : Nat) : Int)) <;> rfl
  ·rw [CellOk.clC0 h8 h10]
   intro v hv hb
   obtain ⟨j, hj, e⟩ := List.getElem_of_mem hv
   exact more_in h.leads (j := j) (by rw [List.getElem?_eq_getElem hj, e]) (weak_other h8 h10 j) hb
theorem CellOk.inD (h : CellOk N lv f c) {A : List Int} (hA : ∀ x ∈ A, x ∈ f) : AddrIn f (cleanW N A (bareC N c)).Slots ∧ AddrIn f (cleanW N A (bareC N c)).More := by
 obtain ⟨i1, i2⟩ := h.inC
 by_cases h10 : c.Kind = 10
 ·rw [h.bare10 h10]
  unfold cleanW isWM
  rw [show decide ((⟨c.Kind, c.Shape, c.Flags, c.Age, c.Slots, c.More.take 1⟩ : DCell).Kind = 8) = false from decide_eq_false (by show c.Kind ≠ 8; omega)]
  rw [CellOk.clC10 h10] at i1 i2
  exact ⟨i1, fun v hv => i2 v (List.mem_append_left _ hv)⟩
 ·rw [h.bare0 h10]
  unfold cleanW
  rw [h.wm]
  by_cases h8 : c.Kind = 8
  ·rw [decide_eq_true h8, cond_true]
   rw [h.clC8 h8] at i1 i2
   refine ⟨i1, fun v hv => i2 v (cleanL_sub (fun x hx => ?_) hv)⟩
   exact decide_eq_true ((h.mem x).2 (hA x (of_decide_eq_true hx)))
  ·rw [decide_eq_false h8, cond_false]
   rw [CellOk.clC0 h8 h10] at i1 i2
   exact ⟨i1, i2⟩
end
end Go.Proofs.YtmbaennilhdieaaGreat
/- Plain: what is read is of a bounded size. -/
namespace Go.Proofs.YtmbaennilhdieaaGreat
open Go.RowKit
theorem reach_le : reachBytes ≤ 140737488355328 := by decide
theorem read_mem (m : DMemory) (roots : List DValue) (hm : wfwDMemory m) (hr : WfL (fun z => wfwDValue z) roots) : Bnd 140737488355328 m roots ∧ W64 m ∧ ∀ v ∈ roots, in64 v.N := by
 have hb := reach_le
 obtain ⟨⟨y1, y2⟩, o1, o2⟩ := hm
 have hc : ∀ c ∈ m.Young ++ m.Old, wfwDCell c := fun c hc => (List.mem_append.1 hc).elim (y2 c) (o2 c)
 refine ⟨⟨Nat.le_trans y1 hb, Nat.le_trans o1 hb, Nat.le_trans hr.1 hb, fun c h => ?_⟩, fun c h v hv => ?_, fun v hv => (hr.2 v hv).2.1⟩
 ·obtain ⟨-, -, -, -, s, t⟩ := hc c h
  exact ⟨Nat.le_trans s.1 hb, Nat.le_trans t.1 hb⟩
 ·obtain ⟨-, -, -, -, s, t⟩ := hc c h
  rcases List.mem_append.1 hv with hv | hv
  ·exact (s.2 v hv).2.1
  ·exact (t.2 v hv).2.1
end Go.Proofs.YtmbaennilhdieaaGreat
/- Plain: ReachAlike. -/
namespace Go.Proofs.YtmbaennilhdieaaGreat
open Go.RowKit
theorem side_ok (N : Nat) (hN : 5000 < N) {m : DMemory} {x : List DValue} (hs : Small m x) (hw : W64 m) (hx : ∀ v ∈ x, in64 v.N) : ∃ L, SideOk (bareM N m) x L ∧ reach_Order_O N (bareM N m) x = some L ∧ r19_Order_O N (bareM N m) x = some L := by
 obtain ⟨bg, all, ho, hlen, -, -, o0⟩ := order_fun N hN (hs.bare N) (hw.bare N) hx
 obtain ⟨b', all', ho', r0, -⟩ := rorder_fun N hN (hs.bare N) (hw.bare N) hx
 obtain ⟨-, e2⟩ := ho.det ho'
 subst e2
 exact ⟨all, ⟨hs.bare N, hw.bare N, hx, hlen, ho.nodup.2, ho.has.2⟩, o0, r0⟩
theorem alike_both (N : Nat) (hN : 5000 < N) {a b : DMemory} {x y : List DValue} (ha : Small a x) (hb : Small b y) (wa : W64 a) (wb : W64 b) (hx : ∀ v ∈ x, in64 v.N) (hy : ∀ v ∈ y, in64 v.N) : ∃ LA LB, SideOk (bareM N a) x LA ∧ SideOk (bareM N b) y LB ∧ reach_Order_O N (bareM N a) x = some LA ∧ reach_Order_O N (bareM N b) y = some LB ∧ reach_Alike_O N a x b y = some (alikeS N (bareM N a) x LA (bareM N b) y LB) ∧ r19_Alike_O N a x b y = some (alikeS N (bareM N a) x LA (bareM N b) y LB) := by
 obtain ⟨LA, sA, oA, rA⟩ := side_ok N hN ha wa hx
 obtain ⟨LB, sB, oB, rB⟩ := side_ok N hN hb wb hy
 exact ⟨LA, LB, sA, sB, oA, oB, alike_prog N hN (bare_prog N hN ha) (bare_prog N hN hb) sA sB oA oB, alike_ref N hN (side_ref N hN ha rA) (side_ref N hN hb rB) sA sB⟩
end Go.Proofs.YtmbaennilhdieaaGreat
/- Plain: the memory that a major collection leaves; it is isomorphic to what was reachable. -/
namespace Go.Proofs.YtmbaennilhdieaaGreat
open Go.RowKit
theorem addr_in {c : DCell} {v : DValue} (hv : v ∈ c.Slots ++ c.More) (hb : hasB v = true) : v.N ∈ addrC c := by
 unfold addrC
 rcases List.mem_append.1 hv with hv | hv
 ·exact List.mem_append_left _ (slots_in (f := leadsL c) (fun x hx => hx) v hv hb)
 ·obtain ⟨j, hj, e⟩ := List.getElem_of_mem hv
  cases hw : weakB c.Kind j with
  | false => exact List.mem_append_left _ (more_in (f := leadsL c) (fun x hx => hx) (by rw [List.getElem?_eq_getElem hj, e]) hw hb)
  | true => exact List.mem_append_right _ (pick_in (j := j) (by rw [List.getElem?_eq_getElem hj, e]) (by rw [Nat.zero_add, hw, hb]; rfl))
theorem opens_has {p : Int → Bool} {x : Int} : ∀ {l : List DValue}, x ∈ opens p l → ∃ v ∈ l, hasB v = true ∧ v.N = x
 | [], h => by simp [opens] at h
 | [_], h => by simp [opens] at h
 | k :: v :: l, h => by
  rw [opens_cons] at h
  rcases List.mem_append.1 h with h | h
  ·cases hv : hasB v && p k.N with
   | false => rw [hv] at h; cases h
   | true =>
    rw [hv] at h
    rw [Bool.and_eq_true] at hv
    exact ⟨v, by simp, hv.1, (List.mem_singleton.1 h).symm⟩
  ·obtain ⟨w, h1, h2⟩ := opens_has h
   exact ⟨w, by simp [h1], h2⟩
structure CollCtx (N : Nat) (m : DMemory) (roots : List DValue) (live f : List Int) : Prop where
 big : 5000 < N
 small : Small m roots
 tot : Wtd m roots
 w64 : W64 m
 r64 : ∀ v ∈ roots, in64 v.N
 lv : Live N m roots live f
 right : ∀ c ∈ m.Young ++ m.Old, rightB c = true
 addr : ∀ c ∈ m.Young ++ m.Old, ∀ x ∈ addrC c, hasM m x = true
 roots : ∀ x ∈ addrL roots, hasM m x = true
theorem ctx_of {N : Nat} (hN : 5000 < N) {m : DMemory} {roots : List DValue} (hs : Small m roots) (ht : Wtd m roots) (hw : W64 m) (hr : ∀ v ∈ roots, in64 v.N) {live f : List Int} (hl : Live N m roots live f) (h0 : checkM N m roots = 0) : CollCtx N m roots live f := by
 obtain ⟨h1, h2, h3⟩ := checkM_ok h0
 exact ⟨hN, hs, ht, hw, hr, hl, fun c hc => by have := hs.cells c hc; rw [← rightC_B (N := N) (by omega) this.1 this.2]; exact h1 c hc, h2, h3⟩
section
variable {N : Nat} {m : DMemory} {roots : List DValue} {live f : List Int} (h : CollCtx N m roots live f)
include h
theorem CollCtx.mem (x : Int) : x ∈ live ↔ x ∈ f := (h.lv.mem x).symm
theorem CollCtx.cell {a : Int} (ha : a ∈ f) : CellOk N live f (atM m a) := by
 have hm := atM_mem (h.lv.fhas ha)
 obtain ⟨b, all, ho, hlv, -⟩ := h.lv.ord
 have hall : ∀ x, x ∈ all ↔ x ∈ f := fun x => by rw [← h.mem x, hlv]; exact (sortL_mem all x).symm
 obtain ⟨q1, q2⟩ := ho.closed
 have hs := h.small.cells _ hm
 have hN := h.big
 refine ⟨by omega, h.right _ hm, hs.1, hs.2, fun x hx => ?_, fun x hx => ?_, h.mem⟩
 ·exact (hall x).1 (q1 a ((hall a).2 ha) x hx (h.addr _ hm x (List.mem_append_left _ hx)))
 ·have e : opensL N (atM m a) live = opensL N (atM m a) all := by
   unfold opensL
   rw [opens_congr (q := fun x => decide (x ∈ all)) fun x => dec_cast (by rw [h.mem x]; exact (hall x).symm)]
  rw [e] at hx
  refine (hall x).1 (q2 a ((hall a).2 ha) x hx ?_)
  unfold opensL at hx
  cases hw : isWM N (atM m a) with
  | false => rw [hw] at hx; cases hx
  | true =>
   rw [hw] at hx
   obtain ⟨v, hv, hb, rfl⟩ := opens_has hx
   exact h.addr _ hm _ (addr_in (List.mem_append_right _ hv) hb)
theorem CollCtx.root {x : Int} (hx : x ∈ addrL roots) : x ∈ f := by
 obtain ⟨b, all, ho, hlv, -⟩ := h.lv.ord
 rw [← h.mem x, hlv, sortL_mem]
 exact ho.sub (ho.roots hx (h.roots x hx))
theorem CollCtx.rootIn : AddrIn f roots := fun v hv hb => h.root (addrL_mem.2 ⟨v, hv, hb, rfl⟩)
end
def nextM (N : Nat) (m : DMemory) (live f : List Int) : DMemory := ⟨[], f.map fun a => movC (rho f) f (clC N live (atM m a))⟩
def rowG (N : Nat) (m : DMemory) (live f : List Int) (a : Int) : DCell := movC (rho f) f (clC N live (atM m a))
theorem next_has {N : Nat} {m : DMemory} {live f : List Int} {a : Int} (ha : a ∈ f) : hasM (nextM N m live f) (rho f a) = true := by
 unfold rho
 rw [hasM_o]
 exact decide_eq_true (by unfold nextM; simp only [List.length_map]; exact idx_lt ha)
theorem next_at {N : Nat} {m : DMemory} {live f : List Int} {a : Int} (ha : a ∈ f) : atM (nextM N m live f) (rho f a) = movC (rho f) f (clC N live (atM m a)) := by
 have e : rho f a = 2 * ((f.idxOf a : Nat) : Int) + 2 := rfl
 rw [e, atM_o _ _ (by unfold nextM; simp only [List.length_map]; exact idx_lt ha)]
 unfold nextM
 simp only [List.getElem_map]
 rw [idx_get ha]
theorem movV_in64 {f : List Int} {v : DValue} (hf : f.length ≤ 100000) (hv : in64 v.N) : in64 (movV (rho f) f v).N := by
 unfold movV
 cases hb : hasB v && decide (v.N ∈ f) with
 | false => exact hv
 | true =>
  rw [Bool.and_eq_true, decide_eq_true_eq] at hb
  have := idx_lt hb.2
  show in64 (rho f v.N)
  unfold rho in64; omega
theorem clC_mem {N : Nat} {lv : List Int} {c : DCell} {v : DValue} (hv : v ∈ (clC N lv c).Slots ++ (clC N lv c).More) : v ∈ c.Slots ++ c.More ∨ v = zeroV := by
 unfold clC at hv
 cases h8 : decide (c.Kind = 8) with
 | true => rw [h8] at hv; exact .inl (cleanW_mem hv)
 | false =>
  rw [h8] at hv
  cases h10 : decide (c.Kind = 10) with
  | false => rw [h10] at hv; exact .inl hv
  | true =>
   rw [h10] at hv
   have hv' : v ∈ c.Slots ++ (c.More.take 1 ++ keptE lv (c.More.drop 1)) := hv
   rcases List.mem_append.1 hv' with hv' | hv'
   ·exact .inl (List.mem_append_left _ hv')
   ·rcases List.mem_append.1 hv' with hv' | hv'
    ·exact .inl (List.mem_append_right _ (List.mem_of_mem_take hv'))
    ·rcases kept_mem lv hv' with hv' | hv'
     ·exact .inl (List.mem_append_right _ (List.mem_of_mem_drop hv'))
     ·exact .inr hv'
section
variable {N : Nat} {m : DMemory} {roots : List DValue} {live f : List Int} (h : CollCtx N m roots live f)
include h
theorem CollCtx.flen : f.length ≤ 1200 := by rw [h.lv.len]; exact h.lv.small
theorem CollCtx.flen6 : f.length ≤ 600 := by
 have h1 := sumF_sub (fun _ => 1) h.lv.nd fun a ha => mem_allA (h.lv.fhas ha)
 have h2 : ∀ l : List Int, sumF (fun _ => 1) l = l.length := fun l => by
  induction l with
  | nil => rfl
  | cons x l ih => rw [sumF, ih, List.length_cons]; omega
 rw [h2, h2] at h1
 have h3 := h.tot.cnt
 unfold allA at h1
 simp only [List.length_append, List.length_map, List.length_range] at h1
 omega
theorem CollCtx.nextW : W64 (nextM N m live f) := fun c hc v hv => by
 have hl := h.flen
 have hc' : c ∈ f.map fun a => movC (rho f) f (clC N live (atM m a)) := hc
 obtain ⟨a, ha, rfl⟩ := List.mem_map.1 hc'
 have hv' : v ∈ ((clC N live (atM m a)).Slots ++ (clC N live (atM m a)).More).map (movV (rho f) f) := by rw [List.map_append]; exact hv
 obtain ⟨w, hw, rfl⟩ := List.mem_map.1 hv'
 refine movV_in64 (by omega) ?_
 rcases clC_mem hw with hw | rfl
 ·exact h.w64.at_ a w hw
 ·show in64 0; unfold in64; omega
theorem CollCtx.nextS (l : List DValue) (hl : l.length ≤ 600) : Small (nextM N m live f) l := by
 refine ⟨Nat.zero_le _, ?_, hl, fun c hc => ?_⟩
 ·unfold nextM
  simp only [List.length_map]
  exact h.flen6
 ·have hc' : c ∈ f.map fun a => movC (rho f) f (clC N live (atM m a)) := hc
  obtain ⟨a, ha, rfl⟩ := List.mem_map.1 hc'
  obtain ⟨-, g2, g3, -⟩ := (CellOk.new (rho_ren f) (h.cell ha))
  exact ⟨g2, g3⟩
end
theorem addrL_mov {ρ : Int → Int} {f : List Int} : ∀ {l : List DValue}, AddrIn f l → addrL (l.map (movV ρ f)) = (addrL l).map ρ
 | [], _ => rfl
 | v :: l, h => by
  have ih := addrL_mov (ρ := ρ) (l := l) fun w hw => h w (by simp [hw])
  unfold addrL at ih ⊢
  rw [List.map_cons, List.filter_cons, List.filter_cons, mov_has]
  cases hb : hasB v with
  | false => exact ih
  | true =>
   simp only [if_true, List.map_cons, ih]
   rw [mov_in hb (h v (by simp) hb)]
theorem zip_map_all {α β : Type} (g : α → β) (p : α × β → Bool) : ∀ l : List α, (l.zip (l.map g)).all p = l.all fun a => p (a, g a)
 | [] => rfl
 | a :: l => by rw [List.map_cons, List.zip_cons_cons, List.all_cons, List.all_cons, zip_map_all g p l]
theorem corr_mov {ρ : Int → Int} {f A : List Int} {ha hb : Int → Bool} (hρ : Ren ρ f) (hA : ∀ x ∈ A, x ∈ f) (h1 : ∀ x ∈ f, ha x = true) (h2 : ∀ x ∈ f, hb (ρ x) = true) {v : DValue} (hv : hasB v = true → v.N ∈ f) : corr ha hb A (A.map ρ) v (movV ρ f v) = true := by
 cases hh : hasB v with
 | false =>
  rw [mov_out hh]
  unfold corr
  rw [hh]
  exact decide_eq_true rfl
 | true =>
  have hf := hv hh
  rw [mov_in hh hf]
  unfold corr
  have hh2 : hasB (⟨v.Kind, ρ v.N, v.S⟩ : DValue) = true := hh
  rw [hh, hh2]
  simp only [Bool.not_true, Bool.or_self, cond_false]
  rw [decide_eq_true (p := True) trivial, beq_self_eq_true, dec_cast (rho_mem hρ hA hf), h1 _ hf, h2 _ hf]
  by_cases hm : v.N ∈ A
  ·rw [decide_eq_true hm, idxOf_map hρ hf hA, decide_eq_true (p := A.idxOf v.N = A.idxOf v.N) rfl]; rfl
  ·rw [decide_eq_false hm]; rfl
theorem corrL_mov {ρ : Int → Int} {f A : List Int} {ha hb : Int → Bool} (hρ : Ren ρ f) (hA : ∀ x ∈ A, x ∈ f) (h1 : ∀ x ∈ f, ha x = true) (h2 : ∀ x ∈ f, hb (ρ x) = true) {l : List DValue} (hl : AddrIn f l) : corrL ha hb A (A.map ρ) l (l.map (movV ρ f)) = true := by
 unfold corrL
 rw [zip_map_all, decide_eq_true (by simp), Bool.true_and, List.all_eq_true]
 exact fun v hv => corr_mov hρ hA h1 h2 (hl v hv)
theorem pick_has {F : Nat → DValue → Bool} {x : Int} (hB : ∀ i v, F i v = true → hasB v = true) : ∀ {i : Nat} {l : List DValue}, x ∈ pick F i l → ∃ v ∈ l, hasB v = true ∧ v.N = x
 | _, [], h => by cases h
 | i, v :: l, h => by
  rw [pick_cons] at h
  rcases List.mem_append.1 h with h | h
  ·cases hf : F i v with
   | false => rw [hf] at h; cases h
   | true => rw [hf] at h; exact ⟨v, by simp, hB i v hf, (List.mem_singleton.1 h).symm⟩
  ·obtain ⟨w, g1, g2⟩ := pick_has hB h
   exact ⟨w, by simp [g1], g2⟩
theorem addrC_has {c : DCell} {x : Int} (h : x ∈ addrC c) : ∃ v ∈ c.Slots ++ c.More, hasB v = true ∧ v.N = x := by
 unfold addrC leadsL weaklyL at h
 rcases List.mem_append.1 h with h | h
 ·rcases List.mem_append.1 h with h | h
  ·obtain ⟨v, g1, g2⟩ := pick_has (fun _ _ h => h) h; exact ⟨v, List.mem_append_left _ g1, g2⟩
  ·obtain ⟨v, g1, g2⟩ := pick_has (fun i v h => ((Bool.and_eq_true _ _).mp h).2) h; exact ⟨v, List.mem_append_right _ g1, g2⟩
 ·obtain ⟨v, g1, g2⟩ := pick_has (fun i v h => ((Bool.and_eq_true _ _).mp h).2) h; exact ⟨v, List.mem_append_right _ g1, g2⟩
section
variable {N : Nat} {m : DMemory} {roots : List DValue} {live f : List Int} (h : CollCtx N m roots live f)
include h
theorem CollCtx.atB {a : Int} (ha : a ∈ f) : atM (bareM N m) a = bareC N (atM m a) := atM_bare N m a (h.lv.fhas ha)
theorem CollCtx.atNB {a : Int} (ha : a ∈ f) : atM (bareM N (nextM N m live f)) (rho f a) = bareC N (movC (rho f) f (clC N live (atM m a))) := by
 have _ := h
 rw [atM_bare N _ _ (next_has ha), next_at ha]
theorem CollCtx.graph : MapG (grM N (bareM N m)) (grM N (bareM N (nextM N m live f))) (rho f) (· ∈ f) := by
 refine ⟨fun a b ha hb e => rho_inj ha hb e, fun a ha => ⟨?_, ?_⟩, fun a ha => ?_, fun row a hr ha => ?_⟩
 ·show hasM (bareM N m) a = true
  rw [hasM_bare]; exact h.lv.fhas ha
 ·show hasM (bareM N (nextM N m live f)) (rho f a) = true
  rw [hasM_bare]; exact next_has ha
 ·show leadsL (atM (bareM N (nextM N m live f)) (rho f a)) = (leadsL (atM (bareM N m) a)).map (rho f) ∧ ∀ x ∈ leadsL (atM (bareM N m) a), x ∈ f
  rw [h.atNB ha, h.atB ha]
  exact CellOk.leadsG (rho_ren f) (h.cell ha)
 ·show opensL N (atM (bareM N (nextM N m live f)) (rho f a)) (row.map (rho f)) = (opensL N (atM (bareM N m) a) row).map (rho f) ∧ ∀ x ∈ opensL N (atM (bareM N m) a) row, x ∈ f
  rw [h.atNB ha, h.atB ha]
  exact CellOk.opensG (rho_ren f) (h.cell ha) hr
theorem CollCtx.nowLen : (roots.map (movV (rho f) f)).length ≤ 600 := by rw [List.length_map]; exact h.small.roots
theorem CollCtx.now64 : ∀ v ∈ roots.map (movV (rho f) f), in64 v.N := fun v hv => by
 have hl := h.flen
 obtain ⟨w, hw, rfl⟩ := List.mem_map.1 hv
 exact movV_in64 (by omega) (h.r64 w hw)
theorem CollCtx.alike : reach_Alike_O N m roots (nextM N m live f) (roots.map (movV (rho f) f)) = some true ∧ r19_Alike_O N m roots (nextM N m live f) (roots.map (movV (rho f) f)) = some true := by
 have hN := h.big
 have hsN := h.nextS _ h.nowLen
 obtain ⟨LA, LB, sA, sB, oA, oB, p1, p2⟩ := alike_both N hN h.small hsN h.w64 h.nextW h.r64 h.now64
 obtain ⟨b1, L1, i1, -, -, -, e1⟩ := order_fun N hN (h.small.bare N) (h.w64.bare N) h.r64
 obtain ⟨b2, L2, i2, -, -, -, e2⟩ := order_fun N hN (hsN.bare N) (h.nextW.bare N) h.now64
 rw [e1] at oA
 rw [e2] at oB
 obtain rfl := Option.some.inj oA
 obtain rfl := Option.some.inj oB
 obtain ⟨i3, hL1⟩ := h.graph.isOrder i1 fun x hx => h.root hx
 rw [addrL_mov h.rootIn] at i2
 obtain ⟨-, eL⟩ := i2.det i3
 subst eL
 have hA1 : ∀ x ∈ f, hasM (bareM N m) x = true := fun x hx => by rw [hasM_bare]; exact h.lv.fhas hx
 have hA2 : ∀ x ∈ f, hasM (bareM N (nextM N m live f)) (rho f x) = true := fun x hx => by rw [hasM_bare]; exact next_has hx
 have key : alikeS N (bareM N m) roots L1 (bareM N (nextM N m live f)) (roots.map (movV (rho f) f)) (L1.map (rho f)) = true := by
  unfold alikeS
  rw [decide_eq_true (by simp), corrL_mov (rho_ren f) hL1 hA1 hA2 h.rootIn, zip_map_all, Bool.true_and, Bool.true_and, List.all_eq_true]
  intro a ha
  have haf := hL1 a ha
  simp only
  rw [h.atB haf, h.atNB haf, CellOk.cleanG (rho_ren f) (h.cell haf) hL1]
  obtain ⟨d1, d2⟩ := (h.cell haf).inD hL1
  generalize cleanW N L1 (bareC N (atM m a)) = D at *
  unfold corrC movC
  rw [corrL_mov (rho_ren f) hL1 hA1 hA2 d1, corrL_mov (rho_ren f) hL1 hA1 hA2 d2, decide_eq_true (p := D.Kind = D.Kind) rfl, decide_eq_true (p := D.Shape = D.Shape) rfl, decide_eq_true (p := D.Flags = D.Flags) rfl]; rfl
 rw [p1, p2, key]
 exact ⟨rfl, rfl⟩
theorem CollCtx.newHas {l : List DValue} (hl : AddrIn f l) {v : DValue} (hv : v ∈ l.map (movV (rho f) f)) (hb : hasB v = true) : hasM (nextM N m live f) v.N = true := by
 have _ := h
 obtain ⟨w, hw, rfl⟩ := List.mem_map.1 hv
 rw [mov_has] at hb
 have := hl w hw hb
 rw [mov_in hb this]
 exact next_has this
theorem CollCtx.nextAddr {c : DCell} (hc : c ∈ f.map fun a => movC (rho f) f (clC N live (atM m a))) : rightB c = true ∧ ∀ x ∈ addrC c, hasM (nextM N m live f) x = true := by
 obtain ⟨a, ha, rfl⟩ := List.mem_map.1 hc
 refine ⟨(CellOk.new (rho_ren f) (h.cell ha)).1, fun x hx => ?_⟩
 obtain ⟨v, hv, hb, rfl⟩ := addrC_has hx
 obtain ⟨i1, i2⟩ := (h.cell ha).inC
 rcases List.mem_append.1 hv with hv | hv
 ·exact h.newHas i1 hv hb
 ·exact h.newHas i2 hv hb
theorem CollCtx.nextRight : rightM N (nextM N m live f) (roots.map (movV (rho f) f)) = true := by
 have hN := h.big
 unfold rightM
 have e0 : (nextM N m live f).Young = [] := rfl
 have e1 : (nextM N m live f).Old = f.map fun a => movC (rho f) f (clC N live (atM m a)) := rfl
 rw [e0, e1, List.all_nil, Bool.true_and, Bool.and_eq_true]
 constructor
 ·rw [List.all_eq_true]
  intro c hc
  obtain ⟨g1, g2⟩ := h.nextAddr hc
  have hs := (h.nextS _ h.nowLen).cells c (List.mem_append_right _ hc)
  unfold fineC
  rw [right_spec N (by omega) c (by omega) (by omega), g1]
  show (true && _) = true
  rw [Bool.true_and, Bool.and_eq_true]
  unfold wholeB
  rw [List.all_eq_true, List.all_eq_true]
  exact ⟨fun x hx => g2 x (List.mem_append_left _ hx), fun x hx => g2 x (List.mem_append_right _ hx)⟩
 ·unfold wholeB
  rw [List.all_eq_true]
  intro x hx
  obtain ⟨v, hv, hb, rfl⟩ := addrL_mem.1 hx
  exact h.newHas h.rootIn hv hb
end
end Go.Proofs.YtmbaennilhdieaaGreat
/- Plain: MajorAlike. -/
namespace Go.Proofs.YtmbaennilhdieaaGreat
open Go.RowKit
theorem malike_law {m : DMemory} {roots : List DValue} (hb : Bnd 140737488355328 m roots) (hw : W64 m) (hr : ∀ v ∈ roots, in64 v.N) : w22_MajorAlike_O 6000 m roots = some true := by
 apply Sat.eq
 unfold w22_MajorAlike_O
 refine Sat.bind (few_tot 6000 (by decide) hb) fun b hfew => ?_
 refine sat_not (fun _ => ?_) fun hb1 => ?_
 ·rw [goes22_true]; exact sat_some rfl
 have h6 := hfew hb1
 obtain ⟨live, f, hl⟩ := live_ok 6000 (by decide) h6.small hw hr
 rw [collect_prog 6000 (by decide) h6.small h6.wtd hw hr hl, bs]
 unfold collR
 by_cases h0 : ¬ checkM 6000 m roots = 0
 ·rw [eq_f h0]
  simp only [cond_false]
  rw [eq_f h0]
  simp only [nf, ct]
  rw [r64 (by simp) (by simp), r64 (by simp) (by simp), goes22_true]
  exact sat_some rfl
 replace h0 : checkM 6000 m roots = 0 := by omega
 rw [eq_t h0]
 simp only [cond_true]
 rw [decide_eq_true (p := True) trivial]
 simp only [nt, cf]
 have h := ctx_of (by decide) h6.small h6.wtd hw hr hl h0
 have e1 : (collS 6000 m roots live f).next = nextM 6000 m live f := rfl
 have e2 : (collS 6000 m roots live f).now = roots.map (movV (rho f) f) := rfl
 rw [e1, e2, h.alike.2, bs, ct, right_ref 6000 (by decide) (h.nextS _ h.nowLen) h.nextW h.now64, h.nextRight, bs, bs, ct, goes22_true, bs, bs]
 exact sat_some rfl
theorem malike_top (m : DMemory) (roots : List DValue) (hm : wfwDMemory m) (hr : WfL (fun z => wfwDValue z) roots) : w22_MajorAlike_O 6000 m roots = some true := by
 obtain ⟨h1, h2, h3⟩ := read_mem m roots hm hr
 exact malike_law h1 h2 h3
end Go.Proofs.YtmbaennilhdieaaGreat