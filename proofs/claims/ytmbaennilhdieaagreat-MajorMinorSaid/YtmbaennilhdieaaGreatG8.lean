/- Merged texts: part 8. No conditions of their own. -/
import Derived.Test.YtmbaennilhdieaaGreatG7
import Derived.ProofKit
namespace Go.Proofs.YtmbaennilhdieaaGreat
open Go.RowKit
theorem i6 {α : Type} (xs : List α) (i : Nat) : aG xs (i : Int) = xs[i]? := by
 unfold aG; rw [if_neg (by omega)]; simp
theorem qB {ρ : Type} {b : Prop} [Decidable b] {m : Option ρ} (h : b) : bM b m = m := if_pos h
def bj (v : DValue) : Bool := decide (v.Kind = 7) || decide (v.Kind = 9)
def gP (k : Int) (i : Nat) : Bool := !decide (k = 8) && (!decide (k = 10) || decide ((i : Int).tmod 2 = 0))
def pick (f : Nat → DValue → Bool) : Nat → List DValue → List Int
 | _, [] => []
 | i, v :: l => (bif f i v then [v.N] else []) ++ pick f (i + 1) l
theorem ew (f : Nat → DValue → Bool) (i : Nat) (v : DValue) (l : List DValue) : pick f i (v :: l) = (bif f i v then [v.N] else []) ++ pick f (i + 1) l := rfl
theorem sY (f : Nat → DValue → Bool) : ∀ (i : Nat) (l : List DValue), (pick f i l).length ≤ l.length
 | _, [] => Nat.le_refl _
 | i, v :: l => by
  have := sY f (i + 1) l
  unfold pick
  cases f i v <;> simp <;> omega
theorem uc : ∀ (i : Nat) (l : List DValue), pick (fun _ _ => false) i l = []
 | _, [] => rfl
 | i, v :: l => by unfold pick; simp [uc (i + 1) l]
theorem lE (N : Nat) (v : DValue) : iE N v = some (bj v) := by
 unfold iE bj; cases decide (v.Kind = 7) <;> rfl
theorem sL (N : Nat) (v : DValue) : qG N v = some (bj v) := by
 unfold qG bj; cases decide (v.Kind = 7) <;> rfl
theorem yW (N : Nat) (a b : Bool) (x : DValue) (p : List Int) (h : p.length ≤ 5000) : cK (fun x st => dw N a x st) (b, x) (none, p) = some (true, (none, p ++ (bif (b == a) && bj x then [x.N] else []))) := by
 unfold cK dw
 simp only [lE, Option.bind_some]
 cases b == a
 ·simp
 cases bj x
 ·simp
 have : cD (p.length + [x.N].length) := by unfold cD; simp only [List.length_cons, List.length_nil]; omega
 simp only [cond_true, Option.bind_some, Bool.and_self]
 rw [qB this]
 rfl
theorem Dp (N : Nat) (a : Bool) (c : DCell) (hc : c.More.length ≤ 1000) (K : Nat) (hK : K ≤ 1000) : ∀ (m i : Nat) (p : List Int), c.More.length < m + i → i ≤ c.More.length → p.length ≤ K + i → cell_all_c1_l15 N (cK (fun x st => dw N a x st)) c m (i : Int) (none, p) = some (none, p ++ pick (fun i v => (gP c.Kind i == a) && bj v) i (c.More.drop i))
 | 0, i, p, h, h2, _ => by omega
 | m + 1, i, p, h, h2, h3 => by
  rw [cell_all_c1_l15.eq_2]
  by_cases hi : i < c.More.length
  ·rw [show (decide ((i : Int) < (c.More.length : Int))) = true from decide_eq_true (by omega), i6, List.getElem?_eq_getElem hi, List.drop_eq_getElem_cons hi]
   simp only [cond_true, Option.bind_some]
   have hs : (bif !decide (c.Kind = 8) then ((bif !decide (c.Kind = 10) then (some true) else (some (decide ((i : Int).tmod 2 = 0)))).bind fun b22 => some b22) else (some false)) = some (gP c.Kind i) := by
    unfold gP; cases decide (c.Kind = 8) <;> cases decide (c.Kind = 10) <;> rfl
   rw [hs]
   simp only [Option.bind_some]
   rw [yW N a _ _ _ (by omega)]
   rw [Option.bind_some]
   dsimp only
   rw [Bool.not_true, cond_false]
   rw [qB (by unfold in64; omega)]
   have hlen : (p ++ (bif (gP c.Kind i == a) && bj c.More[i] then [c.More[i].N] else [])).length ≤ K + (i + 1) := by
    cases (gP c.Kind i == a) && bj c.More[i] <;> simp <;> omega
   have := Dp N a c hc K hK m (i + 1) _ (by omega) hi hlen
   simp only [Int.natCast_add, Int.cast_ofNat_Int] at this
   rw [this]
   rw [ew, List.append_assoc]
  rw [show (decide ((i : Int) < (c.More.length : Int))) = false from decide_eq_false (by omega), List.drop_eq_nil_of_le (by omega)]
  simp [pick]
theorem FW (N : Nat) (hN : 2000 < N) (a : Bool) (c : DCell) (hS : c.Slots.length ≤ 1000) (hc : c.More.length ≤ 1000) : ∀ (m i : Nat) (p : List Int), c.Slots.length < m + i → i ≤ c.Slots.length → p.length ≤ i → cell_all_c1_l6 N (cK (fun x st => dw N a x st)) c m (i : Int) (none, p) = some (none, (p ++ pick (fun _ v => (true == a) && bj v) i (c.Slots.drop i)) ++ pick (fun i v => (gP c.Kind i == a) && bj v) 0 c.More)
 | 0, i, p, h, h2, _ => by omega
 | m + 1, i, p, h, h2, h3 => by
  rw [cell_all_c1_l6.eq_2]
  by_cases hi : i < c.Slots.length
  ·rw [show (decide ((i : Int) < (c.Slots.length : Int))) = true from decide_eq_true (by omega), i6, List.getElem?_eq_getElem hi, List.drop_eq_getElem_cons hi]
   simp only [cond_true, Option.bind_some]
   rw [yW N a _ _ _ (by omega)]
   rw [Option.bind_some]
   dsimp only
   rw [Bool.not_true, cond_false]
   rw [qB (by unfold in64; omega)]
   have hlen : (p ++ (bif (true == a) && bj c.Slots[i] then [c.Slots[i].N] else [])).length ≤ (i + 1) := by
    cases (true == a) && bj c.Slots[i] <;> simp <;> omega
   have := FW N hN a c hS hc m (i + 1) _ (by omega) hi hlen
   simp only [Int.natCast_add, Int.cast_ofNat_Int] at this
   rw [this]
   rw [ew, List.append_assoc p]
  rw [show (decide ((i : Int) < (c.Slots.length : Int))) = false from decide_eq_false (by omega), List.drop_eq_nil_of_le (by omega)]
  simp only [cond_false, mO]
  have := Dp N a c hc p.length (by omega) N 0 p (by omega) (by omega) (by omega)
  simp only [Int.natCast_zero, Int.cast_ofNat_Int] at this
  rw [this]
  simp [pick]
theorem qo (N : Nat) (hN : 2000 < N) (a : Bool) (c : DCell) (hS : c.Slots.length ≤ 1000) (hc : c.More.length ≤ 1000) : fS N c a = some (pick (fun _ v => (true == a) && bj v) 0 c.Slots ++ pick (fun i v => (gP c.Kind i == a) && bj v) 0 c.More) := by
 unfold fS mP i7
 have := FW N hN a c hS hc N 0 [] (by omega) (by omega) (by simp)
 simp only [Int.natCast_zero, Int.cast_ofNat_Int] at this
 rw [Option.bind_some, this, Option.bind_some]
 show some _ = some _
 simp
def gu (k : Int) (i : Nat) : Bool := decide (k = 8) || (decide (k = 10) && (decide (0 < (i : Int)) && decide ((((i : Int) - 1).tmod 4).tmod 2 = 0)))
theorem Du (N : Nat) (k : Int) (i : Nat) (hi : i ≤ 5000) : r7 N k (i : Int) = some (gu k i) := by
 unfold r7 gu
 by_cases h1 : k = 8
 ·simp [h1]
 by_cases h2 : k = 10
 ·by_cases h3 : (0 : Int) < i
  ·subst h2; simp only [h3, decide_true, ct, bs, r64 (a := (i : Int) - 1) (by omega) (by omega), show decide ((10 : Int) = 8) = false from rfl, cf, Bool.false_or, Bool.true_and]
  subst h2; simp only [h3, decide_true, decide_false, ct, bs, show decide ((10 : Int) = 8) = false from rfl, cf, Bool.false_or, Bool.true_and, Bool.false_and]
 simp [h1, h2]
theorem wj (N : Nat) (hN : 2000 < N) (c : DCell) (hS : c.Slots.length ≤ 1000) (hc : c.More.length ≤ 1000) : nu N c = some (pick (fun _ v => bj v) 0 c.Slots ++ pick (fun i v => !gu c.Kind i && bj v) 0 c.More) := by
 apply Sat.eq
 unfold nu
 refine ck (fun m i s => r15_Leads_l6 N c m s (i : Int)) c.Slots.length (fun i s => s ++ pick (fun _ v => bj v) i (c.Slots.drop i) = pick (fun _ v => bj v) 0 c.Slots ∧ s.length ≤ i) _ ?_ ?_ N 0 [] (by omega) (by omega) ⟨by simp, by simp⟩
 ·rintro m i s hi ⟨h1, h2⟩ k
  show Sat (r15_Leads_l6 N c (m + 1) s i) _
  rw [List.drop_eq_getElem_cons hi, ew] at h1
  rw [r15_Leads_l6.eq_2, cv (by omega), cond_true, aU hi, bs, sL, bs]
  simp only [bs]
  cases hh : bj c.Slots[i]
  all_goals
   simp only [hh, ct, cf, bs, List.nil_append] at h1 ⊢
   first
   |(unfold kJ
     rw [r64 (by omega) (by omega)]
     exact k s ⟨h1, by omega⟩)
   |(rw [rF (by simp; omega)]
     unfold kJ
     rw [r64 (by omega) (by omega)]
     exact k _ ⟨by rw [List.append_assoc]; exact h1, by simp; omega⟩)
 rintro m s ⟨h1, h2⟩
 show Sat (r15_Leads_l6 N c (m + 1) s _) _
 rw [List.drop_length] at h1
 have h1 : s = pick (fun _ v => bj v) 0 c.Slots := by rw [← h1]; simp [pick]
 rw [r15_Leads_l6.eq_2, cp (by omega), cond_false, ← h1]
 unfold sT
 clear h1
 refine ck (fun m i s => r15_Leads_l23 N c m s (i : Int)) c.More.length (fun i t => t ++ pick (fun i v => !gu c.Kind i && bj v) i (c.More.drop i) = s ++ pick (fun i v => !gu c.Kind i && bj v) 0 c.More ∧ t.length ≤ 1000 + i) _ ?_ ?_ N 0 s (by omega) (by omega) ⟨by simp, by omega⟩
 ·rintro m i s hi ⟨h1, h2⟩ k
  show Sat (r15_Leads_l23 N c (m + 1) s i) _
  rw [List.drop_eq_getElem_cons hi, ew] at h1
  rw [r15_Leads_l23.eq_2, cv (by omega), cond_true, aU hi, bs, sL, bs, Du _ _ _ (by omega)]
  simp only [bs]
  cases hh : bj c.More[i] <;> cases hw : gu c.Kind i
  all_goals
   simp only [hh, hw, Bool.and_true, Bool.and_false, nt, nf, ct, cf, bs, List.nil_append] at h1 ⊢
   first
   |(unfold kI
     rw [r64 (by omega) (by omega)]
     exact k s ⟨h1, by omega⟩)
   |(rw [rF (by simp; omega)]
     unfold kI
     rw [r64 (by omega) (by omega)]
     exact k _ ⟨by rw [List.append_assoc]; exact h1, by simp; omega⟩)
 rintro m s ⟨h1, h2⟩
 show Sat (r15_Leads_l23 N c (m + 1) s _) _
 rw [List.drop_length] at h1
 rw [r15_Leads_l23.eq_2, cp (by omega), cond_false]
 exact aE (by rw [← h1]; simp [pick])
theorem uC (k : Int) (i : Nat) : gP k i = !gu k i := by
 unfold gP gu
 by_cases h8 : k = 8
 ·subst h8; rfl
 by_cases h10 : k = 10
 ·subst h10
  have e0 : (i : Int).tmod 2 = (i : Int) % 2 := Int.tmod_eq_emod_of_nonneg (by omega)
  by_cases hi : (0 : Int) < i
  ·have e1 : ((i : Int) - 1).tmod 4 = ((i : Int) - 1) % 4 := Int.tmod_eq_emod_of_nonneg (by omega)
   have e2 : (((i : Int) - 1) % 4).tmod 2 = (((i : Int) - 1) % 4) % 2 := Int.tmod_eq_emod_of_nonneg (by omega)
   rw [e0, e1, e2]
   by_cases h : (i : Int) % 2 = 0
   ·have h2 : ¬ (((i : Int) - 1) % 4) % 2 = 0 := by omega
    rw [decide_eq_true h, decide_eq_false h2, decide_eq_true hi]; rfl
   have h2 : (((i : Int) - 1) % 4) % 2 = 0 := by omega
   rw [decide_eq_false h, decide_eq_true h2, decide_eq_true hi]; rfl
  have : i = 0 := by omega
  subst this; rfl
 simp [h8, h10]
def bn (c : DCell) : List Int := pick (fun _ v => bj v) 0 c.Slots ++ pick (fun i v => !gu c.Kind i && bj v) 0 c.More
theorem jl (N : Nat) (hN : 2000 < N) (c : DCell) (hS : c.Slots.length ≤ 1000) (hc : c.More.length ≤ 1000) : dQ N c = some (bn c) := by
 unfold dQ bn
 rw [qo N hN true c hS hc, bs]
 have e1 : (fun (_ : Nat) (v : DValue) => (true == true) && bj v) = fun _ v => bj v := by funext i v; rfl
 have e2 : (fun (i : Nat) (v : DValue) => (gP c.Kind i == true) && bj v) = fun i v => !gu c.Kind i && bj v := by funext i v; rw [uC]; cases gu c.Kind i <;> rfl
 rw [e1, e2]
theorem DX (N : Nat) (hN : 2000 < N) (c : DCell) (hS : c.Slots.length ≤ 1000) (hc : c.More.length ≤ 1000) : nu N c = some (bn c) := wj N hN c hS hc
theorem il (c : DCell) : (bn c).length ≤ c.Slots.length + c.More.length := by
 unfold bn
 have h1 := sY (fun _ v => bj v) 0 c.Slots
 have h2 := sY (fun i v => !gu c.Kind i && bj v) 0 c.More
 rw [List.length_append]; omega
theorem sW {f : Nat → DValue → Bool} {x : Int} : ∀ {i : Nat} {l : List DValue}, x ∈ pick f i l → ∃ v ∈ l, v.N = x
 | _, [], h => by cases h
 | i, v :: l, h => by
  rw [ew, List.mem_append] at h
  rcases h with h | h
  ·cases hf : f i v
   ·rw [hf] at h; cases h
   rw [hf] at h; exact ⟨v, by simp, (List.mem_singleton.1 h).symm⟩
  obtain ⟨w, h1, h2⟩ := sW h
  exact ⟨w, by simp [h1], h2⟩
theorem wW {c : DCell} {x : Int} (h : x ∈ bn c) : ∃ v ∈ c.Slots ++ c.More, v.N = x := by
 unfold bn at h
 rcases List.mem_append.1 h with h | h
 ·obtain ⟨v, h1, h2⟩ := sW h; exact ⟨v, by simp [h1], h2⟩
 obtain ⟨v, h1, h2⟩ := sW h; exact ⟨v, by simp [h1], h2⟩
def vO : DCell := ⟨0, 0, 0, 0, [], []⟩
def dI (m : DMemory) (a : Int) : Option DCell := if a < 1 then none else if a % 2 = 1 then m.Young[((a - 1) / 2).toNat]? else m.Old[((a - 2) / 2).toNat]?
def aT (m : DMemory) (a : Int) : Bool := (dI m a).isSome
def bI (m : DMemory) (a : Int) : DCell := (dI m a).getD vO
structure Small (m : DMemory) (roots : List DValue) : Prop where
 young : m.Young.length ≤ 600
 old : m.Old.length ≤ 600
 roots : roots.length ≤ 600
 cells : ∀ c ∈ m.Young ++ m.Old, c.Slots.length ≤ 600 ∧ c.More.length ≤ 600
theorem mU {m : DMemory} {a : Int} {c : DCell} (h : dI m a = some c) : c ∈ m.Young ++ m.Old := by
 unfold dI at h
 split at h
 ·cases h
 split at h
 ·exact List.mem_append_left _ (List.mem_of_getElem? h)
 exact List.mem_append_right _ (List.mem_of_getElem? h)
theorem Small.at_ {m : DMemory} {roots : List DValue} (h : Small m roots) (a : Int) : (bI m a).Slots.length ≤ 600 ∧ (bI m a).More.length ≤ 600 := by
 unfold bI
 cases hc : dI m a with
 | none => exact ⟨by simp [vO], by simp [vO]⟩
 | some c => exact h.cells c (mU hc)
theorem mG {m : DMemory} {a : Int} (h : aT m a = true) : 0 < a := by
 unfold aT dI at h
 split at h
 ·cases h
 omega
theorem qM {m : DMemory} {roots : List DValue} (hs : Small m roots) {a : Int} (h : aT m a = true) : a ≤ 1200 := by
 have h1 := hs.young; have h2 := hs.old
 unfold aT dI at h
 split at h
 ·cases h
 split at h
 ·have := (List.getElem?_eq_some_iff.1 (Option.isSome_iff_exists.1 h).choose_spec).1
  omega
 have := (List.getElem?_eq_some_iff.1 (Option.isSome_iff_exists.1 h).choose_spec).1
 omega
theorem rn {a : Int} (h : 0 ≤ a) : a.tdiv 2 = a / 2 := Int.tdiv_eq_ediv_of_nonneg h
theorem rm {a : Int} (h : 0 ≤ a) : a.tmod 2 = a % 2 := Int.tmod_eq_emod_of_nonneg h
theorem qL {α : Type} (l : List α) (i : Nat) : (l[i]?).isSome = decide ((i : Int) < (l.length : Int)) := by
 by_cases h : i < l.length
 ·rw [List.getElem?_eq_getElem h, decide_eq_true (by omega)]; rfl
 rw [List.getElem?_eq_none (by omega), decide_eq_false (by omega)]; rfl
theorem o6 (m : DMemory) (a : Int) : (a < 1 ∧ dI m a = none) ∨ (∃ k : Nat, a = 2 * (k : Int) + 1 ∧ dI m a = m.Young[k]?) ∨ (∃ k : Nat, a = 2 * (k : Int) + 2 ∧ dI m a = m.Old[k]?) := by
 by_cases h : a < 1
 ·exact .inl ⟨h, by unfold dI; rw [if_pos h]⟩
 by_cases h2 : a % 2 = 1
 ·refine .inr (.inl ⟨((a - 1) / 2).toNat, by omega, ?_⟩)
  unfold dI; rw [if_neg h, if_pos h2]
 refine .inr (.inr ⟨((a - 2) / 2).toNat, by omega, ?_⟩)
 unfold dI; rw [if_neg h, if_neg h2]
theorem Dv {a : Int} (h : in64 a) : -4611686018427387904 ≤ a.tdiv 2 ∧ a.tdiv 2 ≤ 4611686018427387904 := by
 unfold in64 at h
 by_cases h0 : 0 ≤ a
 ·rw [rn h0]; omega
 have h1 : (-a).tdiv 2 = -(a.tdiv 2) := Int.neg_tdiv a 2
 rw [rn (by omega)] at h1
 omega
theorem wz (N : Nat) (m : DMemory) (a : Int) (h : in64 a) : Sat (iS N m a) fun r => r.2.2 = aT m a ∧ (aT m a = true → aG r.1 r.2.1 = dI m a) := by
 have hd := Dv h
 unfold iS
 rw [r64 (by omega) (by omega)]
 unfold jD aT
 rcases o6 m a with ⟨h1, h2⟩ | ⟨k, h1, h2⟩ | ⟨k, h1, h2⟩
 ·rw [h2]
  refine df (fun _ => ?_) fun _ => ?_
  ·rw [r64 (by omega) (by omega), r64 (by omega) (by omega), cp (a := 0) (b := a) (by omega), cf, bs]
   exact aE ⟨rfl, fun h => by cases h⟩
  rw [cp (a := 0) (b := a) (by omega), cf, bs]
  exact aE ⟨rfl, fun h => by cases h⟩
 ·subst h1
  rw [h2, rm (by omega), rn (by omega), eO (by omega), cf, cv (by omega), ct, bs, show (2 * (k : Int) + 1) / 2 = k by omega]
  exact aE ⟨(qL _ _).symm, fun _ => i6 _ _⟩
 subst h1
 rw [h2, rm (by omega), rn (by omega), lQ (by omega), ct, cv (by omega), ct, bs, show (2 * (k : Int) + 2) / 2 - 1 = k by omega]
 rw [r64 (by omega) (by omega), r64 (by omega) (by omega)]
 exact aE ⟨(qL _ _).symm, fun _ => i6 _ _⟩
theorem jR (N : Nat) (m : DMemory) (a : Int) (h : in64 a) : dx N m a = some (aT m a) := by
 obtain ⟨r, h1, h2, -⟩ := wz N m a h
 unfold dx
 rw [h1, bs, h2]
theorem yR (N : Nat) (c : DCell) (h : c.Slots.length ≤ 600 ∧ c.More.length ≤ 600) : f3 N c = some c := by
 unfold f3 eJ
 rw [rF (by simp; omega), bs, rF (by simp; omega), bs]
 rfl
theorem tN (N : Nat) {m : DMemory} {roots : List DValue} (hs : Small m roots) (a : Int) (h : in64 a) : eb N m a = some (bI m a) := by
 obtain ⟨r, h1, h2, h3⟩ := wz N m a h
 unfold eb bI
 rw [h1, bs, h2]
 unfold aT at *
 cases hc : dI m a with
 | none => rfl
 | some c =>
  have h4 := h3 (by rw [hc]; rfl)
  rw [hc] at h4
  have h5 := yR N c (hs.cells c (mU hc))
  simp only [Option.isSome_some, nt, cf, h4, bs, h5]
  rfl
theorem vA (N : Nat) (m : DMemory) (a : Int) (h : in64 a) : kl N m a = some (aT m a) := by
 unfold in64 at h
 unfold kl aT
 rcases o6 m a with ⟨h1, h2⟩ | ⟨k, h1, h2⟩ | ⟨k, h1, h2⟩
 ·rw [h2, cv h1]; rfl
 ·subst h1
  rw [h2, cp (by omega), cf, rm (by omega), lQ (by omega), ct, rn (by omega), show (2 * (k : Int) + 1 - 1) / 2 = k by omega, qL]
  rw [jt (by unfold in64; omega), jt (by unfold in64; omega)]
 subst h1
 rw [h2, cp (by omega), cf, rm (by omega), eO (by omega), cf, rn (by omega), show (2 * (k : Int) + 2 - 2) / 2 = k by omega, qL]
 rw [jt (by unfold in64; omega), jt (by unfold in64; omega)]
theorem zZ (N : Nat) (m : DMemory) (a : Int) (h : in64 a) : la N m a = some (bI m a) := by
 have hh := vA N m a h
 unfold in64 at h
 unfold la bI
 rw [hh, bs]
 unfold aT
 rcases o6 m a with ⟨h1, h2⟩ | ⟨k, h1, h2⟩ | ⟨k, h1, h2⟩
 ·rw [h2]; rfl
 ·cases hc : m.Young[k]? with
  | none => rw [h2, hc]; rfl
  | some c =>
   rw [h2, hc]
   subst h1
   simp only [Option.isSome_some, nt, cf]
   rw [rm (by omega), lQ (by omega), ct, rn (by omega), show (2 * (k : Int) + 1 - 1) / 2 = k by omega, i6, hc, bs]
   rw [jt (by unfold in64; omega), jt (by unfold in64; omega)]
   rfl
 cases hc : m.Old[k]? with
 | none => rw [h2, hc]; rfl
 | some c =>
  rw [h2, hc]
  subst h1
  simp only [Option.isSome_some, nt, cf]
  rw [rm (by omega), eO (by omega), cf, rn (by omega), show (2 * (k : Int) + 2 - 2) / 2 = k by omega, i6, hc, bs]
  rw [jt (by unfold in64; omega), jt (by unfold in64; omega)]
  rfl
theorem D0 (N : Nat) (k : Int) : o4 N k = fZ N k := by
 unfold o4 fZ ft
 by_cases h1 : k = 1
 ·subst h1; rfl
 by_cases h2 : k = 2
 ·subst h2; rfl
 by_cases h3 : k = 3
 ·subst h3; rfl
 by_cases h6 : k = 6
 ·subst h6; rfl
 by_cases h8 : k = 8
 ·subst h8; rfl
 by_cases h9 : k = 9
 ·subst h9; rfl
 by_cases h10 : k = 10
 ·subst h10; rfl
 rw [eO h1, eO h2, eO h3, eO h6, eO h8, eO h9, eO h10]; rfl
theorem EF (N : Nat) (c : DCell) : fq N c = fc N c := by
 unfold fq fc
 rw [D0]; rfl
theorem Hx (N : Nat) (v : DValue) : o3 N v = eV N v := by
 unfold o3 eV lj
 by_cases h5 : v.Kind = 5
 ·rw [h5]; rfl
 rw [eO h5]
 simp only [cf]
 by_cases hr : v.Kind < 0 ∨ 9 < v.Kind
 ·have h2 : v.Kind ≠ 2 := by omega
  have h3 : v.Kind ≠ 3 := by omega
  have h6 : v.Kind ≠ 6 := by omega
  have h7 : v.Kind ≠ 7 := by omega
  have h9 : v.Kind ≠ 9 := by omega
  have e1 : ((bif decide (v.Kind < 0) then (some true) else (some (decide (9 < v.Kind)))) : Option Bool) = some true := by
   rcases hr with h | h
   ·rw [cv h]; rfl
   rw [cv (a := 9) h]; cases decide (v.Kind < 0) <;> rfl
  rw [e1, bs, ct, eO h2, eO h3, eO h6, eO h7, eO h9]
  simp only [cf]
  have e2 : (((bif decide (v.N = 0) then (some (decide (0 ≤ v.Kind))) else (some false)).bind fun b14 => (bif b14 then (some (decide (v.Kind ≤ 9))) else (some false)).bind fun b15 => some b15) : Option Bool) = some false := by
   cases decide (v.N = 0)
   ·rfl
   rcases hr with h | h
   ·rw [E8 (a := 0) (b := v.Kind) (by omega)]; rfl
   rw [E8 (a := v.Kind) (b := 9) (by omega)]; cases decide (0 ≤ v.Kind) <;> rfl
  rw [e2]
  cases s : (v.S.toList == (⟨#[]⟩ : ByteArray).toList) <;> rfl
 have e1 : ((bif decide (v.Kind < 0) then (some true) else (some (decide (9 < v.Kind)))) : Option Bool) = some false := by
  rw [cp (a := v.Kind) (b := 0) (by omega), cp (a := 9) (b := v.Kind) (by omega)]; rfl
 rw [e1, bs, cf]
 cases hs : (v.S.toList == (⟨#[]⟩ : ByteArray).toList)
 ·rfl
 simp only [nt, cf]
 by_cases h2 : v.Kind = 2
 ·rw [h2]; rfl
 rw [eO h2]; simp only [cf]
 by_cases h3 : v.Kind = 3
 ·rw [h3]; rfl
 rw [eO h3]; simp only [cf]
 by_cases h6 : v.Kind = 6
 ·rw [h6]; rfl
 rw [eO h6]; simp only [cf]
 by_cases h7 : v.Kind = 7
 ·rw [h7]; rfl
 rw [eO h7]; simp only [cf]
 by_cases h9 : v.Kind = 9
 ·rw [h9]; rfl
 rw [eO h9, E7 (a := 0) (by omega), E7 (a := v.Kind) (by omega)]
 cases decide (v.N = 0) <;> rfl
theorem AE (N : Nat) (v : DValue) : ∃ b, eV N v = some b := by
 unfold eV
 cases decide (v.Kind < 0) <;> cases decide (9 < v.Kind) <;> cases decide (v.Kind = 5) <;> cases decide (v.N = 0) <;> cases (v.S.toList == (⟨#[]⟩ : ByteArray).toList) <;> cases decide (v.Kind = 2) <;> cases decide (v.Kind = 3) <;> cases decide ((-9007199254740992) ≤ v.N) <;> cases decide (v.Kind = 6) <;> cases decide (v.Kind = 7) <;> cases decide (v.Kind = 9) <;> exact ⟨_, rfl⟩
theorem tD (N : Nat) (k : Nat) (hk : k = 2 ∨ k = 4) (l : List DValue) (hl : l.length ≤ 1000) : ∀ (m i : Nat), l.length < m + i → i ≤ l.length → (l.length - i) % k = 0 → ∃ b, r15_entries_l5 N (k : Int) l m (i : Int) = some b ∧
  slices_Chunk_l4 N (cK (fun x st => bT N (k : Int) x st)) l (k : Int) m (i : Int) (none, ()) = some (bif b then (none, ()) else (some .ret, ()))
 | 0, i, h, h2, _ => by omega
 | m + 1, i, h, h2, h3 => by
  by_cases hi : i < l.length
  ·have hik : i + k ≤ l.length := by
    rcases hk with rfl | rfl <;> omega
   have hmin : (min (k : Int) (((l.drop (i : Int).toNat).take (l.length - (i : Int).toNat)).length : Int)) = k := by
    rw [List.length_take, List.length_drop, Int.toNat_natCast]; omega
   have hto : ((i : Int) + (k : Int)).toNat = i + k := by omega
   have hx : ∀ j, j < k → aG ((l.drop i).take k) (j : Int) = l[i + j]? := fun j hj => by
    rw [i6, List.getElem?_take, if_pos hj, List.getElem?_drop]
   have hk0 := hx 0 (by omega)
   have hk1 := hx 1 (by omega)
   rw [List.getElem?_eq_getElem (by omega)] at hk0 hk1
   have hl0 : aG l (i : Int) = some l[i] := aU hi
   have hl1 : aG l ((i : Int) + 1) = some (l[i + 1]'(by omega)) := by
    have := aU (xs := l) (i := i + 1) (by omega)
    simpa using this
   obtain ⟨b, hb1, hb2⟩ := tD N k hk l hl m (i + k) (by omega) hik (by rcases hk with rfl | rfl <;> omega)
   simp only [Int.natCast_add] at hb1 hb2
   have fin : ∀ b', (bif b' then some false else bM (in64 ((i : Int) + (k : Int))) (r15_entries_l5 N (k : Int) l m ((i : Int) + (k : Int)))) = some (bif b' then false else b) := fun b' => by
    cases b'
    ·rw [cf, r64 (by omega) (by omega), hb1]; rfl
    rfl
   have fin2 : ∀ b' : Bool, ((bif b' then (some (some Exit.ret, ())) else (some (none, ())) : Option (Option Exit × Unit)).map fun r => (r.1.isNone, r)) = some (!b', (bif b' then some Exit.ret else none, ())) := fun b' => by cases b' <;> rfl
   have goal : ∀ b', ((some (!b', ((bif b' then some Exit.ret else none : Option Exit), ())) : Option (Bool × (Option Exit × Unit))).bind fun y14 => bif !y14.1 then (some y14.2) else (bM (in64 ((i : Int) + (k : Int))) ((slices_Chunk_l4 N (cK (fun x st => bT N (k : Int) x st)) l (k : Int) m) ((i : Int) + (k : Int)) y14.2))) = some (bif (bif b' then false else b) then (none, ()) else (some .ret, ())) := fun b' => by
    cases b'
    ·rw [bs]
     simp only [nf, nt, cf]
     rw [r64 (by omega) (by omega)]
     exact hb2
    rfl
   have lift : ∀ (x : List DValue) (b' : Bool), bT N (k : Int) x () = (bif b' then (some (some Exit.ret, ())) else (some (none, ()))) → cK (fun x st => bT N (k : Int) x st) x (none, ()) = some (!b', (bif b' then some Exit.ret else none, ())) := fun x b' hb => by
    unfold cK
    simp only [hb]
    exact fin2 b'
   have key : ∃ b', ((aG l (i : Int)).bind fun x8 => (bif !decide (x8.Kind = 7) then (some true) else (bM (in64 ((i : Int) + 1)) ((aG l ((i : Int) + 1)).bind fun x11 => some (decide (x11.Kind = 8))))).bind fun b9 => bif b9 then (some false) else ((bif decide ((k : Int) = 4) then (bM (in64 ((i : Int) + 2)) ((aG l ((i : Int) + 2)).bind fun x15 => (da N x15 7).bind fun y16 => (bif !y16 then (some true) else (bM (in64 ((i : Int) + 3)) ((aG l ((i : Int) + 3)).bind fun x19 => (dY N x19 0 9007199254740992).bind fun y20 => some (!y20)))).bind fun b17 => some b17)) else (some false)).bind fun b13 => bif b13 then (some false) else (bM (in64 ((i : Int) + (k : Int))) ((r15_entries_l5 N (k : Int) l m) ((i : Int) + (k : Int)))))) = some (bif b' then false else b) ∧ bT N (k : Int) ((l.drop i).take k) () = (bif b' then (some (some Exit.ret, ())) else (some (none, ()))) := by
    unfold bT
    simp only [Int.cast_ofNat_Int, Int.natCast_zero, Int.natCast_one] at hk0 hk1
    rw [hl0, bs, r64 (a := (i : Int) + 1) (by omega) (by omega), hl1, bs]
    have hk0' : aG ((l.drop i).take k) 0 = some l[i] := hk0
    have hk1' : aG ((l.drop i).take k) 1 = some (l[i + 1]'(by omega)) := hk1
    simp only [hk0', bs, hk1']
    cases h7 : (!decide (l[i].Kind = 7))
    ·simp only [cf, bs]
     cases h8 : decide ((l[i + 1]'(by omega)).Kind = 8)
     ·simp only [cf]
      rcases hk with rfl | rfl
      ·simp only [show decide (((2 : Nat) : Int) = 4) = false from rfl, cf, bs]
       have f := fin false
       rw [cf] at f
       refine ⟨false, ?_, rfl⟩
       exact f
      have hk2 := hx 2 (by omega)
      have hk3 := hx 3 (by omega)
      rw [List.getElem?_eq_getElem (by omega)] at hk2 hk3
      have hk2' : aG ((l.drop i).take 4) 2 = some (l[i + 2]'(by omega)) := hk2
      have hk3' : aG ((l.drop i).take 4) 3 = some (l[i + 3]'(by omega)) := hk3
      have hl2 : aG l ((i : Int) + 2) = some (l[i + 2]'(by omega)) := by
       have := aU (xs := l) (i := i + 2) (by omega)
       simpa using this
      have hl3 : aG l ((i : Int) + 3) = some (l[i + 3]'(by omega)) := by
       have := aU (xs := l) (i := i + 3) (by omega)
       simpa using this
      simp only [show decide (((4 : Nat) : Int) = 4) = true from rfl, ct]
      rw [r64 (a := (i : Int) + 2) (by omega) (by omega), hl2, bs, hk2', bs, r64 (a := (i : Int) + 3) (by omega) (by omega), hl3, bs, hk3']
      have en : ∀ v, er N v 7 = da N v 7 := fun v => rfl
      have em : ∀ v, eu N v 0 9007199254740992 = dY N v 0 9007199254740992 := fun v => rfl
      have hn : ∃ b1, da N (l[i + 2]'(by omega)) 7 = some b1 := by unfold da; cases decide ((l[i + 2]'(by omega)).Kind = 0) <;> exact ⟨_, rfl⟩
      have hm : ∃ b1, dY N (l[i + 3]'(by omega)) 0 9007199254740992 = some b1 := by unfold dY; cases decide ((l[i + 3]'(by omega)).Kind = 3) <;> cases decide (0 ≤ (l[i + 3]'(by omega)).N) <;> exact ⟨_, rfl⟩
      obtain ⟨b1, hn⟩ := hn
      obtain ⟨b2, hm⟩ := hm
      simp only [bs, en, em, hn, hm]
      cases b1
      ·simp only [nf, ct, bs]
       exact ⟨true, rfl, rfl⟩
      simp only [nt, cf, bs]
      exact ⟨!b2, fin (!b2), by cases b2 <;> rfl⟩
     exact ⟨true, rfl, rfl⟩
    exact ⟨true, rfl, rfl⟩
   obtain ⟨b', e1, e2⟩ := key
   refine ⟨bif b' then false else b, ?_, ?_⟩
   ·rw [r15_entries_l5.eq_2, cv (by omega), ct]
    exact e1
   rw [slices_Chunk_l4.eq_2, cv (by omega), ct, hmin, jt (show (0 : Int) ≤ (i : Int) ∧ (i : Int).toNat ≤ l.length ∧ l.length ≤ l.length from ⟨by omega, by omega, Nat.le_refl _⟩), r64 (a := (i : Int) + (k : Int)) (by omega) (by omega), r64 (a := (i : Int) + (k : Int)) (by omega) (by omega)]
   rw [jt (show (0 : Int) ≤ (i : Int) ∧ (0 : Int) ≤ (i : Int) + (k : Int) ∧ (i : Int).toNat ≤ ((i : Int) + (k : Int)).toNat ∧ ((i : Int) + (k : Int)).toNat ≤ l.length from ⟨by omega, by omega, by omega, by omega⟩), hto, Int.toNat_natCast, show i + k - i = k by omega, lift _ b' e2]
   exact goal b'
  rw [r15_entries_l5.eq_2, slices_Chunk_l4.eq_2, cp (by omega), cf, cf]
  exact ⟨true, rfl, rfl⟩
theorem mL (N : Nat) (hN : 2000 < N) (k : Nat) (hk : k = 2 ∨ k = 4) (l : List DValue) (hl : l.length ≤ 1000) : ∃ b, dc N l (k : Int) = some b ∧ cI N l (k : Int) = some b ∧ (b = true → l.length % k = 0) := by
 unfold dc cI
 have hk0 : (k : Int) ≠ 0 := by rcases hk with rfl | rfl <;> decide
 rw [jt hk0, jt hk0]
 have ht : (l.length : Int).tmod (k : Int) = ((l.length % k : Nat) : Int) := by
  rw [Int.tmod_eq_emod_of_nonneg (by omega)]; rfl
 rw [ht]
 by_cases h : l.length % k = 0
 ·rw [lQ (by omega)]
  obtain ⟨b, h1, h2⟩ := tD N k hk l hl N 0 (by omega) (by omega) (by simpa using h)
  have e : ge N l (k : Int) = some () := by
   unfold ge; rw [cp (by rcases hk with rfl | rfl <;> omega), cf]
  unfold mh
  simp only [nt, cf, e, bs]
  have h1' : r15_entries_l5 N (k : Int) l N 0 = some b := h1
  have h2' : slices_Chunk_l4 N (cK (fun x st => bT N (k : Int) x st)) l (k : Int) N 0 (none, ()) = some (bif b then (none, ()) else (some .ret, ())) := h2
  rw [h1', h2', bs]
  exact ⟨b, by cases b <;> rfl, rfl, fun _ => h⟩
 rw [eO (by omega)]
 exact ⟨false, rfl, rfl, fun h => by cases h⟩
theorem Gl (N : Nat) (hN : 2000 < N) (c : DCell) (hc : c.More.length ≤ 1000) : fR N c.Kind c.More = gk N c := by
 obtain ⟨b2, h2, h2', -⟩ := mL N hN 2 (.inl rfl) c.More hc
 obtain ⟨b4, h4, h4', -⟩ := mL N hN 4 (.inr rfl) ((c.More.drop ((1 : Int).toNat)).take (c.More.length - (1 : Int).toNat)) (by rw [List.length_take, List.length_drop]; omega)
 have e2 : dc N c.More 2 = cI N c.More 2 := h2.trans h2'.symm
 have e4 : dc N ((c.More.drop ((1 : Int).toNat)).take (c.More.length - (1 : Int).toNat)) 4 = cI N ((c.More.drop ((1 : Int).toNat)).take (c.More.length - (1 : Int).toNat)) 4 := h4.trans h4'.symm
 unfold fR gk gW fY
 rw [e2, e4]
 rfl
theorem AF (N : Nat) (c : DCell) (b : Bool) (v : DValue) : ∃ y, eV N v = some y ∧ cK (fun x st => dV N c x st) (b, v) (none, ()) = some (y, (bif y then none else some Exit.ret, ())) := by
 obtain ⟨y, hy⟩ := AE N v
 refine ⟨y, hy, ?_⟩
 unfold cK dV
 simp only [Hx, hy, bs]
 cases y <;> rfl
theorem wh (N : Nat) (c : DCell) (hc : c.More.length ≤ 1000) : ∀ (m i : Nat), c.More.length < m + i → i ≤ c.More.length → ∃ b, r15_Right_l20 N c m (i : Int) = (bif b then cJ N c else some false) ∧
  cell_all_c1_l15 N (cK (fun x st => dV N c x st)) c m (i : Int) (none, ()) = some (bif b then none else some Exit.ret, ())
 | 0, i, h, h2 => by omega
 | m + 1, i, h, h2 => by
  rw [r15_Right_l20.eq_2, cell_all_c1_l15.eq_2]
  by_cases hi : i < c.More.length
  ·rw [cv (by omega), ct, ct, aU hi, bs, bs]
   have hs : (bif !decide (c.Kind = 8) then ((bif !decide (c.Kind = 10) then (some true) else (some (decide ((i : Int).tmod 2 = 0)))).bind fun b22 => some b22) else (some false)) = some (gP c.Kind i) := by
    unfold gP; cases decide (c.Kind = 8) <;> cases decide (c.Kind = 10) <;> rfl
   obtain ⟨y, h3, h4⟩ := AF N c (gP c.Kind i) c.More[i]
   rw [hs, bs, h3, h4, bs, bs]
   cases y
   ·simp only [nf, nt, ct, cf]
    exact ⟨false, cf.symm, by rw [cf]⟩
   obtain ⟨b, h5, h6⟩ := wh N c hc m (i + 1) (by omega) hi
   simp only [Int.natCast_add, Int.cast_ofNat_Int] at h5 h6
   simp only [nt, cf, ct]
   rw [r64 (by omega) (by omega), r64 (by omega) (by omega)]
   exact ⟨b, h5, h6⟩
  rw [cp (by omega), cf, cf]
  exact ⟨true, ct.symm, by rw [ct]⟩
theorem ni (N : Nat) (hN : 2000 < N) (c : DCell) (hS : c.Slots.length ≤ 1000) (hc : c.More.length ≤ 1000) : ∀ (m i : Nat), c.Slots.length < m + i → i ≤ c.Slots.length → ∃ b, r15_Right_l12 N c m (i : Int) = (bif b then cJ N c else some false) ∧
  cell_all_c1_l6 N (cK (fun x st => dV N c x st)) c m (i : Int) (none, ()) = some (bif b then none else some Exit.ret, ())
 | 0, i, h, h2 => by omega
 | m + 1, i, h, h2 => by
  rw [r15_Right_l12.eq_2, cell_all_c1_l6.eq_2]
  by_cases hi : i < c.Slots.length
  ·rw [cv (by omega), ct, ct, aU hi, bs, bs]
   obtain ⟨y, h3, h4⟩ := AF N c true c.Slots[i]
   rw [h3, h4, bs, bs]
   cases y
   ·simp only [nf, nt, ct, cf]
    exact ⟨false, cf.symm, by rw [cf]⟩
   obtain ⟨b, h5, h6⟩ := ni N hN c hS hc m (i + 1) (by omega) hi
   simp only [Int.natCast_add, Int.cast_ofNat_Int] at h5 h6
   simp only [nt, cf, ct]
   rw [r64 (by omega) (by omega), r64 (by omega) (by omega)]
   exact ⟨b, h5, h6⟩
  rw [cp (by omega), cf, cf]
  exact wh N c hc N 0 (by omega) (by omega)
theorem mm (N : Nat) (hN : 2000 < N) (c : DCell) (hS : c.Slots.length ≤ 1000) (hc : c.More.length ≤ 1000) : dP N c = cQ N c := by
 unfold dP cQ i7
 have hAge : ((bif !decide (c.Age = 0) then (some (!decide (c.Age = 1))) else (some false)).bind fun b10 => some b10) = (some (decide (c.Age < 0) || decide (1 < c.Age)) : Option Bool) := by
  by_cases h0 : c.Age = 0
  ·rw [h0]; rfl
  by_cases h1 : c.Age = 1
  ·rw [h1]; rfl
  rw [eO h0, eO h1]
  by_cases h2 : c.Age < 0
  ·rw [cv h2]; rfl
  rw [cv (a := 1) (b := c.Age) (by omega), cp (a := c.Age) (by omega)]; rfl
 obtain ⟨b, h1, h2⟩ := ni N hN c hS hc N 0 (by omega) (by omega)
 have h1' : r15_Right_l12 N c N 0 = (bif b then cJ N c else some false) := h1
 have h2' : cell_all_c1_l6 N (cK (fun x st => dV N c x st)) c N 0 (none, ()) = some (bif b then none else some Exit.ret, ()) := h2
 have e : mP N c = some () := rfl
 rw [hAge, h1', h2', e]
 have tail : ((some ()).bind fun (y12 : Unit) => (some ((bif b then none else some Exit.ret : Option Exit), ())).bind fun y15 => oz y15.1 ((fq N c).bind fun y19 => (bif y19 then ((fR N c.Kind c.More).bind fun y21 => some y21) else (some false)).bind fun b20 => some b20) (some false) (fun _ => none)) = (bif b then cJ N c else some false) := by
  cases b
  ·rfl
  rw [EF, Gl N hN c hc]; rfl
 rw [tail]
 cases decide (c.Kind < 1) <;> cases decide (11 < c.Kind) <;> cases decide (c.Shape < 0) <;> cases decide (c.Flags < 0) <;> cases decide (63 < c.Flags) <;> cases decide (c.Age < 0) <;> cases decide (1 < c.Age) <;> rfl
theorem ET {m : Option Bool} {x : Bool} : m = some x → (m.bind fun b => some b) = some x := fun h => by rw [h]; rfl
theorem BH (N : Nat) (hN : 2000 < N) (c : DCell) (hS : c.Slots.length ≤ 1000) (hc : c.More.length ≤ 1000) (h8 : c.Kind = 8) : ∃ b, cQ N c = some b ∧ (b = true → c.More.length % 2 = 0) := by
 obtain ⟨b1, g1, -⟩ := ni N hN c hS hc N 0 (by omega) (by omega)
 have g1' : r15_Right_l12 N c N 0 = (bif b1 then cJ N c else some false) := g1
 obtain ⟨b2, -, h2, h3⟩ := mL N hN 2 (.inl rfl) c.More hc
 have hm : gk N c = some b2 := by
  unfold gk fY
  rw [h8, cp (by omega)]
  show ((cI N c.More 2).bind fun y37 => some y37) = _
  exact ET h2
 have hs : ∃ b3, fc N c = some b3 := by
  unfold fc
  rw [h8]
  have : fZ N 8 = some true := rfl
  rw [this, bs, ct, bs, ct]
  by_cases hl : 1 ≤ (c.Slots.length : Int)
  ·rw [E7 hl, ct, bs, Gq (xs := c.Slots) (i := 0) (by omega) (by omega), bs]
   cases decide ((c.Slots.length : Int) ≤ 1025)
   ·exact ⟨_, rfl⟩
   cases decide (c.Slots[(0 : Int).toNat].Kind = 1) <;> exact ⟨_, rfl⟩
  rw [E8 (by omega)]; exact ⟨_, rfl⟩
 obtain ⟨b3, hs⟩ := hs
 have hj : cJ N c = some (b3 && b2) := by
  unfold cJ
  rw [hs, hm]
  cases b3 <;> rfl
 unfold cQ
 rw [g1', hj]
 have fin : ∃ b, ((bif b1 then some (b3 && b2) else some false) : Option Bool) = some b ∧ (b = true → c.More.length % 2 = 0) := by
  cases b1
  ·exact ⟨false, rfl, fun h => by cases h⟩
  exact ⟨b3 && b2, rfl, fun h => h3 (by cases b3 <;> cases b2 <;> first | rfl | cases h)⟩
 obtain ⟨b, e1, e2⟩ := fin
 rw [e1]
 have ff : ∃ b', (some false : Option Bool) = some b' ∧ (b' = true → c.More.length % 2 = 0) := ⟨false, rfl, fun h => by cases h⟩
 cases decide (c.Kind < 1) <;> cases decide (11 < c.Kind) <;> cases decide (c.Shape < 0) <;> cases decide (c.Flags < 0) <;> cases decide (63 < c.Flags) <;> cases decide (c.Age < 0) <;> cases decide (1 < c.Age) <;> first | exact ff | exact ⟨b, rfl, e2⟩
def gB (N : Nat) (c : DCell) : Bool := decide (c.Kind = 8) && (cQ N c).getD false
theorem zB (N : Nat) (hN : 2000 < N) (c : DCell) (hS : c.Slots.length ≤ 1000) (hc : c.More.length ≤ 1000) : sQ N c = some (gB N c) ∧ nX N c = some (gB N c) ∧ (gB N c = true → c.More.length % 2 = 0) := by
 unfold sQ nX gB
 rw [mm N hN c hS hc]
 by_cases h8 : c.Kind = 8
 ·obtain ⟨b, h1, h2⟩ := BH N hN c hS hc h8
  rw [h1, h8]
  exact ⟨rfl, rfl, h2⟩
 rw [eO h8]
 exact ⟨rfl, rfl, fun h => by cases h⟩
abbrev z8 {ρ : Type} (m : Option ρ) : Prop := Sat m fun _ => True
theorem bq {ρ : Type} (x : ρ) : z8 (some x) := aE trivial
theorem gN {ρ : Type} {b : Bool} {x y : Option ρ} (hx : b = true → z8 x) (hy : b = false → z8 y) : z8 (bif b then x else y) := mj hx hy
theorem td (N : Nat) (v : DValue) (a b : Int) : z8 (dY N v a b) := by
 unfold dY
 refine Sat.bind (P := fun _ => True) (gN (fun _ => bq _) fun _ => bq _) fun x _ => Sat.bind (P := fun _ => True) (gN (fun _ => bq _) fun _ => bq _) fun y _ => bq _
theorem pT (N : Nat) (v : DValue) (a : Int) : z8 (da N v a) := by
 unfold da
 exact Sat.bind (P := fun _ => True) (gN (fun _ => bq _) fun _ => bq _) fun x _ => bq _
theorem qx {c : Bool} {m : Option Bool} (h : c = true → z8 m) : z8 (bif c then m else some false) := gN h fun _ => bq _
theorem pA {l : List DValue} {i : Nat} {f : DValue → Option Bool} (hi : i < l.length) (h : ∀ v, z8 (f v)) : z8 ((aG l (i : Int)).bind f) := by
 rw [aU hi, bs]; exact h _
theorem dr {m : Option Bool} {f : Bool → Option Bool} (h : z8 m) (k : ∀ b, z8 (f b)) : z8 (m.bind f) := Sat.bind h fun b _ => k b
theorem lS {m : Option Bool} {p : Prop} {f : Bool → Option Bool} (h : Sat m fun b => b = true → p) (k : ∀ b, (b = true → p) → z8 (f b)) : z8 (m.bind f) := Sat.bind h k
theorem DB (N : Nat) (c : DCell) : z8 (fc N c) := by
 unfold fc
 have hp : z8 (fZ N c.Kind) := by
  unfold fZ
  iterate 6 refine dr (gN (fun _ => bq _) fun _ => bq _) fun _ => ?_
  exact bq _
 refine dr hp fun y => dr (gN (fun _ => bq _) fun _ => dr (gN (fun _ => bq _) fun _ => bq _) fun _ => bq _) fun b => ?_
 refine gN (fun _ => ?_) fun _ => ?_
 ·refine lS (p := 0 < c.Slots.length) (df (fun h => aE fun _ => by omega) fun _ => aE fun h => by cases h) fun b hb => dr (qx fun h => ?_) fun _ => bq _
  have h0 := hb h
  refine pA (i := 0) h0 fun v => dr (gN (fun _ => bq _) fun _ => pA (i := 0) h0 fun _ => bq _) fun _ => bq _
 refine gN (fun _ => bq _) fun _ => dr (gN (fun _ => bq _) fun _ => bq _) fun _ => gN (fun _ => bq _) fun _ => mj (fun _ => ?_) fun _ => bq _
 refine lS (p := 1 < c.Slots.length) (df (fun h => ?_) fun _ => aE fun h => by cases h) fun b hb => dr (qx fun h => ?_) fun _ => bq _
 ·rw [show ((0 : Int)) = ((0 : Nat) : Int) from rfl, aU (by omega), bs]
  obtain ⟨x, hx, -⟩ := pT N c.Slots[0] 7
  rw [hx, bs]; exact aE fun _ => by omega
 refine pA (i := 1) (hb h) fun v => dr (pT N v 7) fun _ => bq _
theorem CA {l : List DValue} {i : Nat} {m : DValue → Option Bool} (hi : i < l.length) (h : ∀ v, z8 (m v)) {p : Prop} (hp : p) : Sat ((aG l (i : Int)).bind fun x => (m x).bind fun y => some y) fun b => b = true → p := by
 rw [aU hi, bs]
 obtain ⟨x, hx, -⟩ := h l[i]
 rw [hx, bs]; exact aE fun _ => hp
def sw (c : DCell) : Prop := (c.Kind = 8 → c.More.length % 2 = 0) ∧ (c.Kind = 10 → 1 ≤ c.More.length ∧ (c.More.length - 1) % 4 = 0)
theorem E0 (N : Nat) (hN : 2000 < N) (c : DCell) (hc : c.More.length ≤ 1000) : Sat (gk N c) fun b => b = true → sw c := by
 have j6 : ∀ p, (p = true → c.Kind = 1 ∨ c.Kind = 5) → Sat (fY N c p) fun b => b = true → sw c := by
  intro p hp
  have other : ∀ {m : Option Bool}, c.Kind ≠ 8 → c.Kind ≠ 10 → z8 m → Sat m fun b => b = true → sw c := fun h8 h10 h => h.mono fun _ _ _ => ⟨fun e => absurd e h8, fun e => absurd e h10⟩
  unfold fY
  refine mj (fun h => other (by rcases hp h with e | e <;> omega) (by rcases hp h with e | e <;> omega) (bq _)) fun _ => ?_
  refine df (fun hk => other (by omega) (by omega) ?_) fun _ => ?_
  ·refine lS (p := 1 < c.More.length) (df (fun h => CA (i := 0) (by omega) (fun v => td N v _ _) (by omega)) fun _ => aE fun h => by cases h) fun b hb => dr (qx fun h => pA (i := 1) (hb h) fun v => dr (pT N v 9) fun _ => bq _) fun _ => bq _
  refine df (fun hk => other (by omega) (by omega) ?_) fun _ => ?_
  ·refine lS (p := 0 < c.More.length) (df (fun h => aE fun _ => by omega) fun _ => aE fun h => by cases h) fun b hb => dr (qx fun h => pA (i := 0) (hb h) fun v => dr (pT N v 9) fun _ => bq _) fun _ => bq _
  refine df (fun hk => other (by omega) (by omega) ?_) fun _ => ?_
  ·refine lS (p := 1 < c.More.length) (df (fun h => CA (i := 0) (by omega) (fun v => td N v _ _) (by omega)) fun _ => aE fun h => by cases h) fun b hb => dr (qx fun h => pA (i := 1) (hb h) fun v => dr (pT N v 9) fun _ => bq _) fun _ => bq _
  refine df (fun hk => other (by omega) (by omega) ?_) fun _ => ?_
  ·refine lS (p := 3 < c.More.length) (df (fun h => CA (i := 2) (by omega) (fun v => td N v _ _) (by omega)) fun _ => aE fun h => by cases h) fun b hb => dr (qx fun h => pA (i := 3) (hb h) fun v => dr (td N v _ _) fun _ => bq _) fun _ => bq _
  refine df (fun hk => ?_) fun hk8 => ?_
  ·obtain ⟨b, -, h2, h3⟩ := mL N hN 2 (.inl rfl) c.More hc
   have h2' : cI N c.More 2 = some b := h2
   rw [h2', bs]
   exact aE fun hb => ⟨fun _ => h3 hb, fun e => absurd e (by omega)⟩
  refine df (fun hk => ?_) fun hk10 => ?_
  ·refine Sat.bind (P := fun b => b = true → 1 ≤ c.More.length) (df (fun h => ?_) fun _ => aE fun h => by cases h) fun b hb => ?_
   ·rw [show ((0 : Int)) = ((0 : Nat) : Int) from rfl, aU (by omega), bs]; exact aE fun _ => by omega
   refine Sat.bind (P := fun b => b = true → sw c) (mj (fun h => ?_) fun _ => aE fun h => by cases h) fun b' hb' => aE hb'
   have h1 := hb h
   rw [qB ⟨by omega, by show (1 : Int).toNat ≤ _; exact h1, Nat.le_refl _⟩]
   have hl : ((c.More.drop ((1 : Int).toNat)).take (c.More.length - (1 : Int).toNat)).length = c.More.length - 1 := by
    rw [List.length_take, List.length_drop]; show min (c.More.length - 1) (c.More.length - 1) = _; omega
   obtain ⟨b2, -, h2, h3⟩ := mL N hN 4 (.inr rfl) ((c.More.drop ((1 : Int).toNat)).take (c.More.length - (1 : Int).toNat)) (by rw [hl]; omega)
   have h2' : cI N ((c.More.drop ((1 : Int).toNat)).take (c.More.length - (1 : Int).toNat)) 4 = some b2 := h2
   rw [h2', bs]
   exact aE fun hb2 => ⟨fun e => absurd e (by omega), fun _ => ⟨h1, by have := h3 hb2; rw [hl] at this; exact this⟩⟩
  refine df (fun hk => other (by omega) (by omega) ?_) fun _ => other hk8 hk10 (bq _)
  refine dr ?_ fun _ => bq _
  exact gN (fun h => pA (i := 0) (by have := of_decide_eq_true h; omega) fun v => dr (td N v _ _) fun _ => bq _) fun _ => bq _
 unfold gk
 refine df (fun _ => aE fun h => by cases h) fun _ => df (fun hk => aE fun _ => ⟨fun e => absurd e (by omega), fun e => absurd e (by omega)⟩) fun _ => df (fun hk => j6 _ fun _ => .inl hk) fun _ => j6 _ fun h => .inr (of_decide_eq_true h)
theorem js (N : Nat) (hN : 2000 < N) (c : DCell) (hS : c.Slots.length ≤ 1000) (hc : c.More.length ≤ 1000) : Sat (cQ N c) fun b => b = true → sw c := by
 obtain ⟨b1, g1, -⟩ := ni N hN c hS hc N 0 (by omega) (by omega)
 have g1' : r15_Right_l12 N c N 0 = (bif b1 then cJ N c else some false) := g1
 have hj : Sat (cJ N c) fun b => b = true → sw c := by
  unfold cJ
  refine Sat.bind (DB N c) fun y _ => ?_
  refine Sat.bind (P := fun b => b = true → sw c) (mj (fun _ => Sat.bind (E0 N hN c hc) fun _ h => aE h) fun _ => aE fun h => by cases h) fun _ h => aE h
 unfold cQ
 rw [g1']
 iterate 6 refine Sat.bind (P := fun _ => True) (gN (fun _ => bq _) fun _ => bq _) fun _ _ => ?_
 refine mj (fun _ => aE fun h => by cases h) fun _ => mj (fun _ => hj) fun _ => aE fun h => by cases h
theorem lX {α ρ : Type} (L : Nat → Int → Option ρ) (l : List α) (p : α → Bool) (bad k : Option ρ)
  (step : ∀ m (i : Nat) (h : i < l.length), L (m + 1) (i : Int) = bif p l[i] then L m ((i : Int) + 1) else bad)
  (fin : ∀ m, L (m + 1) (l.length : Int) = k) (N : Nat) (hN : l.length < N) : L N 0 = bif l.all p then k else bad := by
 have key : ∀ m i : Nat, l.length < m + i → i ≤ l.length → L m (i : Int) = bif (l.drop i).all p then k else bad := by
  intro m
  induction m with
  | zero => intro i h1 h2; omega
  | succ m ih =>
   intro i h1 h2
   by_cases hi : i < l.length
   ·rw [step m i hi, List.drop_eq_getElem_cons hi, List.all_cons]
    have h3 := ih (i + 1) (by omega) hi
    rw [show (((i + 1 : Nat)) : Int) = (i : Int) + 1 by omega] at h3
    rw [h3]
    cases p l[i] <;> rfl
   have e : i = l.length := by omega
   subst e
   rw [fin, List.drop_length]; rfl
 have := key N 0 (by omega) (by omega)
 simpa using this
theorem qd {α : Type} (L : Nat → Int → Option Bool) (l : List α) (p : α → Bool)
  (step : ∀ m (i : Nat) (h : i < l.length), L (m + 1) (i : Int) = bif p l[i] then L m ((i : Int) + 1) else some false)
  (fin : ∀ m, L (m + 1) (l.length : Int) = some true) (N : Nat) (hN : l.length < N) : L N 0 = some (l.all p) := by
 rw [lX L l p _ _ step fin N hN]; cases l.all p <;> rfl
theorem all_map {α β : Type} (f : α → β) (p : β → Bool) (l : List α) : (l.map f).all p = l.all fun x => p (f x) := by rw [List.all_map]; rfl
theorem su {α : Type} (q p : α → Bool) : ∀ l : List α, (l.filter q).all p = l.all fun x => !q x || p x
 | [] => rfl
 | x :: l => by
  rw [List.filter_cons, List.all_cons, ← su q p l]
  cases h : q x <;> simp
theorem Ad {α β : Type} (L : Nat → Int → Option Bool) (a : List α) (b : List β) (p : α × β → Bool)
  (step : ∀ m (i : Nat) (h : i < a.length) (h' : i < b.length), L (m + 1) (i : Int) = bif p (a[i], b[i]) then L m ((i : Int) + 1) else some false)
  (fin : ∀ m, L (m + 1) (a.length : Int) = some true) (N : Nat) (hN : a.length < N) : (bif !decide ((a.length : Int) = (b.length : Int)) then some false else L N 0) = some (decide (a.length = b.length) && (a.zip b).all p) := by
 by_cases hl : a.length = b.length
 ·have hz : (a.zip b).length = a.length := by rw [List.length_zip]; omega
  rw [decide_eq_true (p := ((a.length : Int) = (b.length : Int))) (by omega), nt, cf, decide_eq_true hl, Bool.true_and]
  refine qd L (a.zip b) p (fun m i h => ?_) (fun m => by rw [hz]; exact fin m) N (by omega)
  rw [List.getElem_zip]
  exact step m i (by omega) (by omega)
 rw [decide_eq_false (p := ((a.length : Int) = (b.length : Int))) (by omega), nf, ct, decide_eq_false hl]; rfl
theorem oG {α β : Type} (p : α × β → Bool) (q : β × α → Bool) (h : ∀ x y, p (x, y) = q (y, x)) : ∀ (a : List α) (b : List β), (a.zip b).all p = (b.zip a).all q
 | [], b => by simp
 | _ :: _, [] => by simp
 | x :: a, y :: b => by rw [List.zip_cons_cons, List.zip_cons_cons, List.all_cons, List.all_cons, h, oG p q h a b]
def F5 {α β : Type} [DecidableEq α] (a : α) (b : β) : List (α × β) → List (α × β)
 | [] => [(a, b)]
 | p :: l => if p.1 = a then (a, b) :: l else p :: F5 a b l
theorem F6 {α β : Type} [DecidableEq α] (L : List (α × β)) (a : α) (b : β) : na L a b = F5 a b L := by
 have key : ∀ (L : List (α × β)) (j : Nat), (∃ i c, fp a L j = some (i, c) ∧ j ≤ i ∧ L.set (i - j) (a, b) = F5 a b L) ∨ (fp a L j = none ∧ L ++ [(a, b)] = F5 a b L) := by
  intro L
  induction L with
  | nil => intro j; exact .inr ⟨rfl, rfl⟩
  | cons p l ih =>
   intro j
   obtain ⟨x, y⟩ := p
   by_cases e : a = x
   ·refine .inl ⟨j, y, by simp [fp, e], Nat.le_refl _, ?_⟩
    rw [Nat.sub_self]; simp [F5, e]
   have e' : ¬ x = a := fun h => e h.symm
   rcases ih (j + 1) with ⟨i, c, h1, h2, h3⟩ | ⟨h1, h2⟩
   ·refine .inl ⟨i, c, by simp [fp, e, h1], by omega, ?_⟩
    rw [show i - j = (i - (j + 1)) + 1 by omega, List.set_cons_succ, h3]
    simp [F5, e']
   exact .inr ⟨by simp [fp, e, h1], by simp [F5, e', h2]⟩
 unfold na
 rcases key L 0 with ⟨i, c, h1, -, h3⟩ | ⟨h1, h2⟩
 ·rw [h1]; exact h3
 rw [h1]; exact h2
theorem nw {α β : Type} [DecidableEq α] (p : α × β) (l : List (α × β)) (x : α) : lk (p :: l) x = if p.1 = x then some p.2 else lk l x := by
 unfold lk
 rw [List.find?_cons]
 by_cases e : p.1 = x <;> simp [e]
theorem yp {α β : Type} [DecidableEq α] (L : List (α × β)) (a : α) (b : β) (x : α) : lk (na L a b) x = if a = x then some b else lk L x := by
 rw [F6]
 induction L with
 | nil => rw [F5, nw]
 | cons p l ih =>
  unfold F5
  by_cases e : p.1 = a
  ·rw [if_pos e, nw, nw, e]
   by_cases e2 : a = x <;> simp [e2]
  rw [if_neg e, nw, nw, ih]
  by_cases e2 : p.1 = x
  ·rw [if_pos e2, if_pos e2, if_neg (fun h => e (by rw [e2, h]))]
  rw [if_neg e2, if_neg e2]
theorem HA {α β : Type} [DecidableEq α] (L : List (α × β)) (a : α) (b : β) (x : α) (h : a ≠ x) : lk (L ++ [(a, b)]) x = lk L x := by
 induction L with
 | nil => rw [List.nil_append, nw, if_neg h]
 | cons p l ih => rw [List.cons_append, nw, nw, ih]
abbrev vZ : DValue := ⟨0, 0, ⟨#[]⟩⟩
def lI (l : List DValue) (i : Nat) : DValue := l.getD i vZ
theorem gF {l : List DValue} {i : Nat} (h : i < l.length) : aG l (i : Int) = some (lI l i) := by
 rw [aU h]; unfold lI; simp [List.getD, h]
def lO (v : DValue) : Bool := (eV 0 v).getD false
theorem AD (N : Nat) (v : DValue) : eV N v = some (lO v) := by
 obtain ⟨b, hb⟩ := AE 0 v
 have e : eV N v = eV 0 v := Eq.trans rfl rfl
 unfold lO
 rw [e, hb]; rfl
def numB (v : DValue) (a b : Int) : Bool := decide (v.Kind = 3) && (decide (a ≤ v.N) && decide (v.N ≤ b))
def noneB (v : DValue) (k : Int) : Bool := decide (v.Kind = 0) || decide (v.Kind = k)
theorem pS (N : Nat) (v : DValue) (a b : Int) : dY N v a b = some (numB v a b) := by
 unfold dY numB
 cases decide (v.Kind = 3) <;> cases decide (a ≤ v.N) <;> cases decide (v.N ≤ b) <;> rfl
theorem oq (N : Nat) (v : DValue) (k : Int) : da N v k = some (noneB v k) := by
 unfold da noneB
 cases decide (v.Kind = 0) <;> cases decide (v.Kind = k) <;> rfl
def zq (k : Int) : Bool := decide (k = 1) || decide (k = 2) || decide (k = 3) || decide (k = 6) || decide (k = 8) || decide (k = 9) || decide (k = 10)
theorem BO (N : Nat) (k : Int) : fZ N k = some (zq k) := by
 unfold fZ zq
 cases decide (k = 1) <;> cases decide (k = 2) <;> cases decide (k = 3) <;> cases decide (k = 6) <;> cases decide (k = 8) <;> cases decide (k = 9) <;> cases decide (k = 10) <;> rfl
def lp (k sh fl : Int) (l : List DValue) : Bool :=
 bif zq k || (decide (k = 7) && decide (0 < l.length)) then decide (1 ≤ l.length) && decide (l.length ≤ 1025) && (decide ((lI l 0).Kind = 1) || decide ((lI l 0).Kind = 7))
 else bif decide (k = 7) then decide (sh = 0) else bif !decide (sh = 0) || !decide (fl = 0) then false else bif decide (k = 5) then decide (l.length = 2) && noneB (lI l 0) 7 && noneB (lI l 1) 7 else decide (l.length = 0)
theorem dv {p q : Prop} [Decidable p] [Decidable q] (h : p ↔ q) : decide p = decide q := by
 by_cases hp : p
 ·rw [decide_eq_true hp, decide_eq_true (h.1 hp)]
 rw [decide_eq_false hp, decide_eq_false fun hq => hp (h.2 hq)]
theorem BC (N : Nat) (c : DCell) : fc N c = some (lp c.Kind c.Shape c.Flags c.Slots) := by
 unfold fc lp
 rw [BO, bs, dv (p := (0 : Int) < (c.Slots.length : Int)) (q := 0 < c.Slots.length) (by omega), dv (p := (1 : Int) ≤ (c.Slots.length : Int)) (q := 1 ≤ c.Slots.length) (by omega), dv (p := (c.Slots.length : Int) ≤ 1025) (q := c.Slots.length ≤ 1025) (by omega), dv (p := (c.Slots.length : Int) = 2) (q := c.Slots.length = 2) (by omega), dv (p := (c.Slots.length : Int) = 0) (q := c.Slots.length = 0) (by omega)]
 have hA : ∀ b : Bool, ((bif decide (1 ≤ c.Slots.length) then some (decide (c.Slots.length ≤ 1025)) else some false).bind fun b8 => (bif b8 then ((aG c.Slots 0).bind fun x10 => (bif decide (x10.Kind = 1) then (some true) else ((aG c.Slots 0).bind fun x12 => some (decide (x12.Kind = 7)))).bind fun b11 => some b11) else (some false)).bind fun b9 => some b9) = some (decide (1 ≤ c.Slots.length) && decide (c.Slots.length ≤ 1025) && (decide ((lI c.Slots 0).Kind = 1) || decide ((lI c.Slots 0).Kind = 7))) := fun _ => by
  by_cases h : 1 ≤ c.Slots.length
  ·have g : aG c.Slots 0 = some (lI c.Slots 0) := gF (i := 0) (by omega)
   rw [decide_eq_true h, g]
   simp only [bs]
   cases decide (c.Slots.length ≤ 1025) <;> cases decide ((lI c.Slots 0).Kind = 1) <;> cases decide ((lI c.Slots 0).Kind = 7) <;> rfl
  rw [decide_eq_false h]; rfl
 have hB : ((bif decide (c.Slots.length = 2) then ((aG c.Slots 0).bind fun x18 => (da N x18 7).bind fun y19 => some y19) else (some false)).bind fun b17 => (bif b17 then ((aG c.Slots 1).bind fun x21 => (da N x21 7).bind fun y22 => some y22) else (some false)).bind fun b20 => some b20) = some (decide (c.Slots.length = 2) && noneB (lI c.Slots 0) 7 && noneB (lI c.Slots 1) 7) := by
  by_cases h : c.Slots.length = 2
  ·have g : aG c.Slots 0 = some (lI c.Slots 0) := gF (i := 0) (by omega)
   have g1 : aG c.Slots 1 = some (lI c.Slots 1) := gF (i := 1) (by omega)
   rw [decide_eq_true h, g, g1]
   simp only [bs, oq]
   cases noneB (lI c.Slots 0) 7 <;> cases noneB (lI c.Slots 1) 7 <;> rfl
  rw [decide_eq_false h]; rfl
 rw [hA true, hB]
 cases zq c.Kind <;> cases decide (c.Kind = 7) <;> cases decide (0 < c.Slots.length) <;> cases decide (c.Shape = 0) <;> cases decide (c.Flags = 0) <;> cases decide (c.Kind = 5) <;> rfl
def ka : List DValue → Bool
 | k :: v :: r => decide (k.Kind = 7) && !decide (v.Kind = 8) && ka r
 | [_] => false
 | [] => true
def iH : List DValue → Bool
 | t :: h :: k :: s :: r => decide (t.Kind = 7) && !decide (h.Kind = 8) && (noneB k 7 && numB s 0 9007199254740992) && iH r
 | [] => true
 | _ => false
theorem gq (k v : DValue) (r : List DValue) : ka (k :: v :: r) = (decide (k.Kind = 7) && !decide (v.Kind = 8) && ka r) := Eq.trans rfl rfl
theorem jn (t h k s : DValue) (r : List DValue) : iH (t :: h :: k :: s :: r) = (decide (t.Kind = 7) && !decide (h.Kind = 8) && (noneB k 7 && numB s 0 9007199254740992) && iH r) := Eq.trans rfl rfl
theorem yI : ∀ {l : List DValue}, ka l = true → l.length % 2 = 0
 | [], _ => rfl
 | [_], h => by cases h
 | k :: v :: r, h => by
  rw [gq] at h
  rw [Bool.and_eq_true] at h
  have := yI h.2
  simp only [List.length_cons]; omega
theorem yH : ∀ {l : List DValue}, iH l = true → l.length % 4 = 0
 | [], _ => rfl
 | [_], h => by cases h
 | [_, _], h => by cases h
 | [_, _, _], h => by cases h
 | t :: a :: k :: s :: r, h => by
  rw [jn] at h
  rw [Bool.and_eq_true] at h
  have := yH h.2
  simp only [List.length_cons]; omega
theorem qU {l r : List DValue} {i : Nat} {v : DValue} (h : l.drop i = v :: r) : aG l (i : Int) = some v ∧ l.drop (i + 1) = r := by
 have hl : i < l.length := by
  rcases Nat.lt_or_ge i l.length with h1 | h1
  ·exact h1
  rw [List.drop_eq_nil_of_le h1] at h; cases h
 rw [List.drop_eq_getElem_cons hl] at h
 obtain ⟨e1, e2⟩ := List.cons.inj h
 exact ⟨by rw [aU hl, e1], e2⟩
theorem yL (N : Nat) (l : List DValue) (hl : l.length ≤ 1000) : ∀ (m i : Nat), l.length < m + i → i ≤ l.length → (l.length - i) % 2 = 0 → r15_entries_l5 N 2 l m (i : Int) = some (ka (l.drop i))
 | 0, i, h, h2, _ => by omega
 | m + 1, i, h, h2, h3 => by
  rw [r15_entries_l5.eq_2]
  match hd : l.drop i with
  | [] =>
   have hi : l.length ≤ i := by have := congrArg List.length hd; rw [List.length_drop] at this; simp at this; omega
   rw [cp (by omega), cf]; rfl
  | [x] => have := congrArg List.length hd; rw [List.length_drop] at this; simp at this; omega
  | k :: v :: r =>
   have hlen := congrArg List.length hd
   rw [List.length_drop] at hlen; simp only [List.length_cons] at hlen
   obtain ⟨g1, d1⟩ := qU hd
   obtain ⟨g2, d2⟩ := qU d1
   rw [show (((i + 1 : Nat)) : Int) = (i : Int) + 1 by omega] at g2
   have ih := yL N l hl m (i + 2) (by omega) (by omega) (by omega)
   rw [show (((i + 2 : Nat)) : Int) = (i : Int) + 2 by omega, d2] at ih
   rw [cv (by omega), ct, g1, bs, r64 (by omega) (by omega), g2, bs, decide_eq_false (p := (2 : Int) = 4) (by decide), cf, bs, cf, r64 (by omega) (by omega), ih]
   simp only [gq]
   cases decide (k.Kind = 7) <;> cases decide (v.Kind = 8) <;> rfl
theorem yJ (N : Nat) (l : List DValue) (hl : l.length ≤ 1000) : ∀ (m i : Nat), l.length < m + i → i ≤ l.length → (l.length - i) % 4 = 0 → r15_entries_l5 N 4 l m (i : Int) = some (iH (l.drop i))
 | 0, i, h, h2, _ => by omega
 | m + 1, i, h, h2, h3 => by
  rw [r15_entries_l5.eq_2]
  match hd : l.drop i with
  | [] =>
   have hi : l.length ≤ i := by have := congrArg List.length hd; rw [List.length_drop] at this; simp at this; omega
   rw [cp (by omega), cf]; rfl
  | [x] => have := congrArg List.length hd; rw [List.length_drop] at this; simp at this; omega
  | [x, y] => have := congrArg List.length hd; rw [List.length_drop] at this; simp at this; omega
  | [x, y, z] => have := congrArg List.length hd; rw [List.length_drop] at this; simp at this; omega
  | t :: v :: k :: s :: r =>
   have hlen := congrArg List.length hd
   rw [List.length_drop] at hlen; simp only [List.length_cons] at hlen
   obtain ⟨g1, d1⟩ := qU hd
   obtain ⟨g2, d2⟩ := qU d1
   obtain ⟨g3, d3⟩ := qU d2
   obtain ⟨g4, d4⟩ := qU d3
   rw [show (((i + 1 : Nat)) : Int) = (i : Int) + 1 by omega] at g2
   rw [show (((i + 1 + 1 : Nat)) : Int) = (i : Int) + 2 by omega] at g3
   rw [show (((i + 1 + 1 + 1 : Nat)) : Int) = (i : Int) + 3 by omega] at g4
   have ih := yJ N l hl m (i + 4) (by omega) (by omega) (by omega)
   rw [show (((i + 4 : Nat)) : Int) = (i : Int) + 4 by omega, d4] at ih
   rw [cv (by omega), ct, g1, bs, r64 (by omega) (by omega), g2, bs, decide_eq_true (p := (4 : Int) = 4) rfl, ct, r64 (by omega) (by omega), g3, bs, oq, bs, r64 (by omega) (by omega), g4, bs, pS, bs, r64 (by omega) (by omega), ih]
   simp only [jn]
   cases decide (t.Kind = 7) <;> cases decide (v.Kind = 8) <;> cases noneB k 7 <;> cases numB s 0 9007199254740992 <;> rfl
theorem Fq (N : Nat) (hN : 2000 < N) (l : List DValue) (hl : l.length ≤ 1000) : cI N l 2 = some (ka l) := by
 unfold cI
 rw [jt (by decide)]
 have e : (l.length : Int).tmod 2 = ((l.length % 2 : Nat) : Int) := by rw [Int.tmod_eq_emod_of_nonneg (by omega)]; omega
 rw [e]
 by_cases h : l.length % 2 = 0
 ·rw [h, decide_eq_true (p := ((0 : Nat) : Int) = 0) rfl, nt, cf]
  exact yL N l hl N 0 (by omega) (by omega) (by omega)
 rw [decide_eq_false (by omega), nf, ct]
 cases hb : ka l with
 | false => rfl
 | true => exact absurd (yI hb) h
theorem Fo (N : Nat) (hN : 2000 < N) (l : List DValue) (hl : l.length ≤ 1000) : cI N l 4 = some (iH l) := by
 unfold cI
 rw [jt (by decide)]
 have e : (l.length : Int).tmod 4 = ((l.length % 4 : Nat) : Int) := by rw [Int.tmod_eq_emod_of_nonneg (by omega)]; omega
 rw [e]
 by_cases h : l.length % 4 = 0
 ·rw [h, decide_eq_true (p := ((0 : Nat) : Int) = 0) rfl, nt, cf]
  exact yJ N l hl N 0 (by omega) (by omega) (by omega)
 rw [decide_eq_false (by omega), nf, ct]
 cases hb : iH l with
 | false => rfl
 | true => exact absurd (yH hb) h
def mx (k : Int) (l : List DValue) : Bool :=
 bif decide (k = 2) then decide (l.length ≤ 4096)
 else bif decide (k = 1) || decide (k = 5) then decide (l.length = 0)
 else bif decide (k = 3) then decide (l.length = 3) && numB (lI l 0) 0 9007199254740992 && noneB (lI l 1) 9
 else bif decide (k = 4) then decide (1 ≤ l.length) && decide (l.length ≤ 4097) && noneB (lI l 0) 9
 else bif decide (k = 6) then decide (l.length = 2) && numB (lI l 0) 0 3 && noneB (lI l 1) 9
 else bif decide (k = 7) then decide (4 ≤ l.length) && numB (lI l 2) 0 1 && numB (lI l 3) 0 9007199254740992
 else bif decide (k = 8) then ka l
 else bif decide (k = 10) then decide (1 ≤ l.length) && decide ((lI l 0).Kind = 7) && iH (l.drop 1)
 else bif decide (k = 9) then decide (2 ≤ l.length) && numB (lI l 0) 0 2
 else true
theorem DS (N : Nat) (hN : 2000 < N) (c : DCell) (hc : c.More.length ≤ 1000) : gk N c = some (mx c.Kind c.More) := by
 have h6 : ∀ p : Bool, p = (decide (c.Kind = 1) || decide (c.Kind = 5)) → c.Kind ≠ 2 → fY N c p = some (mx c.Kind c.More) := by
  intro p hp h2
  subst hp
  unfold fY mx
  rw [eO h2, cf]
  rcases Bool.eq_false_or_eq_true (decide (c.Kind = 1) || decide (c.Kind = 5)) with h15 | h15
  ·rw [h15, ct, ct, dv (p := (c.More.length : Int) = 0) (q := c.More.length = 0) (by omega)]
  rw [h15, cf, cf]
  by_cases k3 : c.Kind = 3
  ·rw [lQ k3, ct, ct, dv (p := (c.More.length : Int) = 3) (q := c.More.length = 3) (by omega)]
   by_cases h : c.More.length = 3
   ·have g0 : aG c.More 0 = some (lI c.More 0) := gF (i := 0) (by omega)
    have g1 : aG c.More 1 = some (lI c.More 1) := gF (i := 1) (by omega)
    rw [decide_eq_true h, g0, g1]
    simp only [bs, pS, oq]
    cases numB (lI c.More 0) 0 9007199254740992 <;> cases noneB (lI c.More 1) 9 <;> rfl
   rw [decide_eq_false h]; rfl
  rw [eO k3, cf, cf]
  by_cases k4 : c.Kind = 4
  ·rw [lQ k4, ct, ct, dv (p := (1 : Int) ≤ (c.More.length : Int)) (q := 1 ≤ c.More.length) (by omega), dv (p := (c.More.length : Int) ≤ 4097) (q := c.More.length ≤ 4097) (by omega)]
   by_cases h : 1 ≤ c.More.length
   ·have g0 : aG c.More 0 = some (lI c.More 0) := gF (i := 0) (by omega)
    rw [decide_eq_true h, g0]
    simp only [bs, oq]
    cases decide (c.More.length ≤ 4097) <;> cases noneB (lI c.More 0) 9 <;> rfl
   rw [decide_eq_false h]; rfl
  rw [eO k4, cf, cf]
  by_cases k6 : c.Kind = 6
  ·rw [lQ k6, ct, ct, dv (p := (c.More.length : Int) = 2) (q := c.More.length = 2) (by omega)]
   by_cases h : c.More.length = 2
   ·have g0 : aG c.More 0 = some (lI c.More 0) := gF (i := 0) (by omega)
    have g1 : aG c.More 1 = some (lI c.More 1) := gF (i := 1) (by omega)
    rw [decide_eq_true h, g0, g1]
    simp only [bs, pS, oq]
    cases numB (lI c.More 0) 0 3 <;> cases noneB (lI c.More 1) 9 <;> rfl
   rw [decide_eq_false h]; rfl
  rw [eO k6, cf, cf]
  by_cases k7 : c.Kind = 7
  ·rw [lQ k7, ct, ct, dv (p := (4 : Int) ≤ (c.More.length : Int)) (q := 4 ≤ c.More.length) (by omega)]
   by_cases h : 4 ≤ c.More.length
   ·have g2 : aG c.More 2 = some (lI c.More 2) := gF (i := 2) (by omega)
    have g3 : aG c.More 3 = some (lI c.More 3) := gF (i := 3) (by omega)
    rw [decide_eq_true h, g2, g3]
    simp only [bs, pS]
    cases numB (lI c.More 2) 0 1 <;> cases numB (lI c.More 3) 0 9007199254740992 <;> rfl
   rw [decide_eq_false h]; rfl
  rw [eO k7, cf, cf]
  by_cases k8 : c.Kind = 8
  ·rw [lQ k8, ct, ct, Fq N hN _ hc, bs]
  rw [eO k8, cf, cf]
  by_cases k10 : c.Kind = 10
  ·rw [lQ k10, ct, ct, dv (p := (1 : Int) ≤ (c.More.length : Int)) (q := 1 ≤ c.More.length) (by omega)]
   by_cases h : 1 ≤ c.More.length
   ·have g0 : aG c.More 0 = some (lI c.More 0) := gF (i := 0) (by omega)
    have hd : ((c.More.drop ((1 : Int).toNat)).take (c.More.length - (1 : Int).toNat)) = c.More.drop 1 := List.take_of_length_le (by rw [List.length_drop]; exact Nat.le_refl _)
    rw [decide_eq_true h, g0, hd, jt ⟨by omega, by show 1 ≤ _; omega, Nat.le_refl _⟩, Fo N hN _ (by rw [List.length_drop]; omega)]
    simp only [bs]
    cases decide ((lI c.More 0).Kind = 7) <;> cases iH (c.More.drop 1) <;> rfl
   rw [decide_eq_false h]; rfl
  rw [eO k10, cf, cf]
  by_cases k9 : c.Kind = 9
  ·rw [lQ k9, ct, ct, dv (p := (2 : Int) ≤ (c.More.length : Int)) (q := 2 ≤ c.More.length) (by omega)]
   by_cases h : 2 ≤ c.More.length
   ·have g0 : aG c.More 0 = some (lI c.More 0) := gF (i := 0) (by omega)
    rw [decide_eq_true h, g0]
    simp only [bs, pS]
    cases numB (lI c.More 0) 0 2 <;> rfl
   rw [decide_eq_false h]; rfl
  rw [eO k9, cf, cf]
 unfold gk
 rw [cp (by omega), cf]
 by_cases k2 : c.Kind = 2
 ·rw [lQ k2, ct]
  unfold mx
  rw [lQ k2, ct, dv (p := (c.More.length : Int) ≤ 4096) (q := c.More.length ≤ 4096) (by omega)]
 rw [eO k2, cf]
 by_cases k1 : c.Kind = 1
 ·rw [lQ k1, ct]; exact h6 _ (by rw [lQ k1]; rfl) k2
 rw [eO k1, cf]; exact h6 _ (by rw [eO k1]; rfl) k2
def ea (c : DCell) : Bool :=
 (!decide (c.Kind < 1) && !decide (11 < c.Kind) && !decide (c.Shape < 0) && !decide (c.Flags < 0) && !decide (63 < c.Flags) && !decide (c.Age < 0) && !decide (1 < c.Age)) && (c.Slots.all lO && (c.More.all lO && (lp c.Kind c.Shape c.Flags c.Slots && mx c.Kind c.More)))
theorem oJ (N : Nat) (hN : 2000 < N) (c : DCell) (hS : c.Slots.length ≤ 1000) (hc : c.More.length ≤ 1000) : cQ N c = some (ea c) := by
 have h19 : cJ N c = some (lp c.Kind c.Shape c.Flags c.Slots && mx c.Kind c.More) := by
  unfold cJ
  rw [BC, DS N hN c hc, bs]
  cases lp c.Kind c.Shape c.Flags c.Slots <;> rfl
 have h20 : r15_Right_l20 N c N 0 = some (c.More.all lO && (lp c.Kind c.Shape c.Flags c.Slots && mx c.Kind c.More)) := by
  rw [lX (fun k i => r15_Right_l20 N c k i) c.More lO (some false) (some (lp c.Kind c.Shape c.Flags c.Slots && mx c.Kind c.More)) (fun k i h => ?_) (fun k => ?_) N (by omega)]
  ·cases c.More.all lO <;> rfl
  ·rw [r15_Right_l20.eq_2, cv (by omega), ct, aU h, bs, AD, bs, r64 (by omega) (by omega)]
   cases lO c.More[i] <;> rfl
  rw [r15_Right_l20.eq_2, cp (by omega), cf, h19]
 have h12 : r15_Right_l12 N c N 0 = some (c.Slots.all lO && (c.More.all lO && (lp c.Kind c.Shape c.Flags c.Slots && mx c.Kind c.More))) := by
  rw [lX (fun k i => r15_Right_l12 N c k i) c.Slots lO (some false) (some (c.More.all lO && (lp c.Kind c.Shape c.Flags c.Slots && mx c.Kind c.More))) (fun k i h => ?_) (fun k => ?_) N (by omega)]
  ·cases c.Slots.all lO <;> rfl
  ·rw [r15_Right_l12.eq_2, cv (by omega), ct, aU h, bs, AD, bs, r64 (by omega) (by omega)]
   cases lO c.Slots[i] <;> rfl
  rw [r15_Right_l12.eq_2, cp (by omega), cf]
  unfold rD
  exact h20
 unfold cQ ea
 rw [h12]
 cases decide (c.Kind < 1) <;> cases decide (11 < c.Kind) <;> cases decide (c.Shape < 0) <;> cases decide (c.Flags < 0) <;> cases decide (63 < c.Flags) <;> cases decide (c.Age < 0) <;> cases decide (1 < c.Age) <;> rfl
theorem wZ (N : Nat) (x : Int) (l : List Int) (hl : l.length ≤ 5000) : ∀ (m i : Nat), l.length < m + i → i ≤ l.length → Sat (slices_Index_l3 N x l m (i : Int)) fun r => decide (0 ≤ r) = decide (x ∈ l.drop i)
 | 0, i, h, h2 => by omega
 | m + 1, i, h, h2 => by
  rw [slices_Index_l3.eq_2]
  by_cases hi : i < l.length
  ·rw [cv (by omega), ct, aU hi, bs, List.drop_eq_getElem_cons hi]
   refine df (fun e => ?_) fun e => ?_
   ·exact aE (by rw [decide_eq_true (by omega), decide_eq_true]; rw [e]; exact List.mem_cons_self ..)
   rw [r64 (by omega) (by omega)]
   have := wZ N x l hl m (i + 1) (by omega) hi
   simp only [Int.natCast_add, Int.cast_ofNat_Int] at this
   refine this.mono fun r hr => ?_
   rw [hr]
   have : (x ∈ l[i] :: l.drop (i + 1)) ↔ x ∈ l.drop (i + 1) := ⟨fun h => (List.mem_cons.1 h).resolve_left (fun e2 => e e2), List.mem_cons_of_mem _⟩
   rw [decide_eq_decide]; exact this.symm
  rw [cp (by omega), cf, List.drop_eq_nil_of_le (by omega)]
  exact aE (by simp)
theorem kS (N : Nat) (hN : 5000 < N) (l : List Int) (hl : l.length ≤ 5000) (x : Int) : dt N l x = some (decide (x ∈ l)) := by
 obtain ⟨r, h1, h2⟩ := wZ N x l hl N 0 (by omega) (by omega)
 unfold dt mg
 rw [show slices_Index_l3 N x l N 0 = some r from h1, bs, h2]
 rfl
theorem Ig (N : Nat) (hN : 5000 < N) (l : List Int) (hl : l.length ≤ 5000) (x : Int) : sR N x l = some (decide (x ∈ l)) := by
 apply Sat.eq
 unfold sR
 have key : ∀ (m i : Nat), l.length < m + i → i ≤ l.length → Sat (r17_In_l3 N x l m (i : Int)) (· = decide (x ∈ l.drop i)) := by
  intro m
  induction m with
  | zero => intro i h h2; omega
  | succ m ih =>
   intro i h h2
   rw [r17_In_l3.eq_2]
   by_cases hi : i < l.length
   ·rw [cv (by omega), ct, aU hi, bs, List.drop_eq_getElem_cons hi]
    refine df (fun e => ?_) fun e => ?_
    ·exact aE (by rw [decide_eq_true]; rw [e]; exact List.mem_cons_self ..)
    rw [r64 (by omega) (by omega)]
    have := ih (i + 1) (by omega) hi
    simp only [Int.natCast_add, Int.cast_ofNat_Int] at this
    refine this.mono fun r hr => ?_
    rw [hr]
    have : (x ∈ l[i] :: l.drop (i + 1)) ↔ x ∈ l.drop (i + 1) := ⟨fun h => (List.mem_cons.1 h).resolve_left (fun e2 => e e2.symm), List.mem_cons_of_mem _⟩
    rw [decide_eq_decide]; exact this.symm
   rw [cp (by omega), cf, List.drop_eq_nil_of_le (by omega)]
   exact aE (by simp)
 exact key N 0 (by omega) (by omega)
theorem ID (N : Nat) (hN : 5000 < N) (l : List Int) (hl : l.length ≤ 5000) (x : Int) : ww N l x = some (decide (x ∈ l)) := by
 apply Sat.eq
 unfold ww
 have key : ∀ (m i : Nat), l.length < m + i → i ≤ l.length → Sat (r19_In_l3 N x l m (i : Int)) (· = decide (x ∈ l.drop i)) := by
  intro m
  induction m with
  | zero => intro i h h2; omega
  | succ m ih =>
   intro i h h2
   rw [r19_In_l3.eq_2]
   by_cases hi : i < l.length
   ·rw [cv (by omega), ct, aU hi, bs, List.drop_eq_getElem_cons hi]
    refine df (fun e => ?_) fun e => ?_
    ·exact aE (by rw [decide_eq_true]; rw [e]; exact List.mem_cons_self ..)
    rw [r64 (by omega) (by omega)]
    have := ih (i + 1) (by omega) hi
    simp only [Int.natCast_add, Int.cast_ofNat_Int] at this
    refine this.mono fun r hr => ?_
    rw [hr]
    have : (x ∈ l[i] :: l.drop (i + 1)) ↔ x ∈ l.drop (i + 1) := ⟨fun h => (List.mem_cons.1 h).resolve_left (fun e2 => e e2.symm), List.mem_cons_of_mem _⟩
    rw [decide_eq_decide]; exact this.symm
   rw [cp (by omega), cf, List.drop_eq_nil_of_le (by omega)]
   exact aE (by simp)
 exact key N 0 (by omega) (by omega)
def opens (p : Int → Bool) : List DValue → List Int
 | k :: v :: l => (bif bj v && p k.N then [v.N] else []) ++ opens p l
 | _ => []
theorem fA (p : Int → Bool) (k v : DValue) (l : List DValue) : opens p (k :: v :: l) = (bif bj v && p k.N then [v.N] else []) ++ opens p l := rfl
theorem yk (p : Int → Bool) : ∀ l : List DValue, (opens p l).length ≤ l.length
 | [] => Nat.le_refl _
 | [_] => Nat.zero_le _
 | k :: v :: l => by
  have := yk p l
  rw [fA, List.length_append]
  cases bj v && p k.N <;> simp <;> omega
theorem yi {p : Int → Bool} {x : Int} : ∀ {l : List DValue}, x ∈ opens p l → ∃ v ∈ l, v.N = x
 | [], h => by cases h
 | [_], h => by cases h
 | k :: v :: l, h => by
  rw [fA, List.mem_append] at h
  rcases h with h | h
  ·cases hb : bj v && p k.N
   ·rw [hb] at h; cases h
   rw [hb] at h; exact ⟨v, by simp, (List.mem_singleton.1 h).symm⟩
  obtain ⟨w, h1, h2⟩ := yi h
  exact ⟨w, by simp [h1], h2⟩
theorem Ax {p q : Int → Bool} (h : ∀ x, p x = q x) (l : List DValue) : opens p l = opens q l := by rw [show p = q from funext h]
theorem i5 (v : DValue) : ((bif decide (v.Kind = 7) then (some true) else (some (decide (v.Kind = 9)))) : Option Bool) = some (bj v) := by unfold bj; cases decide (v.Kind = 7) <;> rfl
def bE (N : Nat) (c : DCell) (l : List Int) : List Int := bif gB N c then opens (fun x => decide (x ∈ l)) c.More else []
theorem wF (N : Nat) (c : DCell) (l : List Int) : (bE N c l).length ≤ c.More.length := by
 unfold bE
 cases gB N c
 ·exact Nat.zero_le _
 exact yk _ _
theorem BT {N : Nat} {c : DCell} {l : List Int} {x : Int} (h : x ∈ bE N c l) : ∃ v ∈ c.Slots ++ c.More, v.N = x := by
 unfold bE at h
 cases hw : gB N c
 ·rw [hw] at h; cases h
 rw [hw] at h
 obtain ⟨v, h1, h2⟩ := yi h
 exact ⟨v, by simp [h1], h2⟩
theorem BQ (N : Nat) (hN : 5000 < N) (l : List Int) (hl : l.length ≤ 5000) (k v : DValue) (s : List Int) (hs : s.length ≤ 5000) : cK (fun x st => eG N l x st) (k, v) (none, s) = some (true, (none, s ++ (bif bj v && decide (k.N ∈ l) then [v.N] else []))) := by
 unfold cK eG
 simp only [i5, bs, kS N hN l hl]
 cases bj v
 ·simp only [cf, bs, Bool.false_and, List.append_nil]; rfl
 simp only [ct, bs, Bool.true_and]
 cases decide (k.N ∈ l)
 ·simp only [cf, List.append_nil]; rfl
 simp only [ct]
 rw [rF (by simp; omega)]
 rfl
theorem tC (N : Nat) (hN : 5000 < N) (l : List Int) (hl : l.length ≤ 5000) (c : DCell) (hc : c.More.length ≤ 1000) (he : c.More.length % 2 = 0) : ∀ (m i : Nat) (s : List Int), c.More.length < m + i → i ≤ c.More.length → i % 2 = 0 → s.length ≤ i → weak_entries_c1_l4 N (cK (fun x st => eG N l x st)) c m (i : Int) (none, s) = some (none, s ++ opens (fun x => decide (x ∈ l)) (c.More.drop i))
 | 0, i, s, h, h2, _, _ => by omega
 | m + 1, i, s, h, h2, h3, h4 => by
  rw [weak_entries_c1_l4.eq_2, r64 (a := (i : Int) + 1) (by omega) (by omega)]
  by_cases hi : i < c.More.length
  ·have hi1 : i + 1 < c.More.length := by omega
   have hl1 : aG c.More ((i : Int) + 1) = some c.More[i + 1] := by
    have := aU hi1
    simpa using this
   rw [cv (by omega), ct, aU hi, bs, r64 (a := (i : Int) + 1) (by omega) (by omega), hl1, bs, BQ N hN l hl _ _ s (by omega), bs]
   simp only [nt, cf]
   rw [r64 (by omega) (by omega)]
   have hlen : (s ++ (bif bj c.More[i + 1] && decide (c.More[i].N ∈ l) then [c.More[i + 1].N] else [])).length ≤ i + 2 := by
    cases bj c.More[i + 1] && decide (c.More[i].N ∈ l) <;> simp <;> omega
   have := tC N hN l hl c hc he m (i + 2) _ (by omega) (by omega) (by omega) hlen
   simp only [Int.natCast_add, Int.cast_ofNat_Int] at this
   rw [this, List.drop_eq_getElem_cons hi, List.drop_eq_getElem_cons hi1, fA, List.append_assoc]
  rw [cp (by omega), cf, List.drop_eq_nil_of_le (by omega)]
  simp [opens]
theorem wD (N : Nat) (hN : 5000 < N) (l : List Int) (hl : l.length ≤ 5000) (c : DCell) (hS : c.Slots.length ≤ 1000) (hc : c.More.length ≤ 1000) : jy N c l = some (bE N c l) := by
 obtain ⟨-, h1, h2⟩ := zB N (by omega) c hS hc
 unfold jy bE eW
 rw [h1, bs]
 cases hw : gB N c
 ·rfl
 have e : gY N c = some () := rfl
 have := tC N hN l hl c hc (h2 hw) N 0 [] (by omega) (by omega) rfl (by simp)
 simp only [nt, cf, ct, e, bs]
 have h3 : weak_entries_c1_l4 N (cK (fun x st => eG N l x st)) c N 0 (none, []) = some (none, [] ++ opens (fun x => decide (x ∈ l)) (c.More.drop 0)) := this
 rw [h3, bs]
 rfl
theorem DL (N : Nat) (hN : 5000 < N) (l : List Int) (hl : l.length ≤ 5000) (c : DCell) (hS : c.Slots.length ≤ 1000) (hc : c.More.length ≤ 1000) : pQ N c l = some (bE N c l) := by
 obtain ⟨h1, -, h2⟩ := zB N (by omega) c hS hc
 unfold pQ bE
 cases hw : gB N c
 ·obtain ⟨n, rfl⟩ : ∃ n, N = n + 1 := ⟨N - 1, by omega⟩
  rw [r17_Opens_l7.eq_2, h1, bs, hw]
  simp only [cf, bs]
  rfl
 have he := h2 hw
 have key : ∀ (m i : Nat) (s : List Int), c.More.length < m + i → i ≤ c.More.length → i % 2 = 0 → s.length ≤ i → r17_Opens_l7 N l c m s (i : Int) = some (s ++ opens (fun x => decide (x ∈ l)) (c.More.drop i)) := by
  intro m
  induction m with
  | zero => intro i s h h2; omega
  | succ m ih =>
   intro i s h h2 h3 h4
   rw [r17_Opens_l7.eq_2, h1, bs, hw, ct, bs]
   by_cases hi : i < c.More.length
   ·have hi1 : i + 1 < c.More.length := by omega
    have hl1 : aG c.More ((i : Int) + 1) = some c.More[i + 1] := by
     have := aU hi1
     simpa using this
    rw [cv (by omega), ct, r64 (a := (i : Int) + 1) (by omega) (by omega), hl1, bs, aU hi, bs, Ig N hN l hl, bs]
    simp only [i5, bs]
    have hlen : (s ++ (bif bj c.More[i + 1] && decide (c.More[i].N ∈ l) then [c.More[i + 1].N] else [])).length ≤ i + 2 := by
     cases bj c.More[i + 1] && decide (c.More[i].N ∈ l) <;> simp <;> omega
    have := ih (i + 2) _ (by omega) (by omega) (by omega) hlen
    simp only [Int.natCast_add, Int.cast_ofNat_Int] at this
    rw [List.drop_eq_getElem_cons hi, List.drop_eq_getElem_cons hi1, fA, ← List.append_assoc, ← this]
    unfold nN
    rw [r64 (a := (i : Int) + 2) (by omega) (by omega), r64 (a := (i : Int) + 2) (by omega) (by omega)]
    cases decide (c.More[i].N ∈ l)
    ·simp only [cf, bs, Bool.and_false, List.append_nil]
    cases bj c.More[i + 1]
    ·simp only [ct, cf, bs, Bool.and_true, List.append_nil]
    simp only [ct, bs, Bool.and_true]
    rw [rF (by simp; omega)]
   rw [cp (by omega), cf, List.drop_eq_nil_of_le (by omega)]
   simp [opens, sP]
 have := key N 0 [] (by omega) (by omega) rfl (by simp)
 simpa using this
theorem te : ∀ (b : Nat) {l : List Int}, l.Nodup → (∀ x ∈ l, 1 ≤ x ∧ x ≤ (b : Int)) → l.length ≤ b
 | 0, l, _, h => by
  cases l with
  | nil => exact Nat.le_refl _
  | cons x l => have := h x (by simp); omega
 | b + 1, l, hn, h => by
  have h1 := te b (hn.erase ((b : Int) + 1)) fun x hx => by
   obtain ⟨h2, h3⟩ := hn.mem_erase_iff.1 hx
   have := h x h3
   omega
  have h2 := List.length_erase (a := (b : Int) + 1) (l := l)
  split at h2 <;> omega
theorem Hy (kv : List (Int × Unit)) (a : Int) : (lk kv a).isSome = decide (a ∈ kv.map (·.1)) := by
 unfold lk
 rw [Bool.eq_iff_iff]
 simp [List.find?_isSome, List.mem_map]
def W64 (m : DMemory) : Prop := ∀ c ∈ m.Young ++ m.Old, ∀ v ∈ c.Slots ++ c.More, in64 v.N
theorem W64.at_ {m : DMemory} (h : W64 m) (a : Int) : ∀ v ∈ (bI m a).Slots ++ (bI m a).More, in64 v.N := by
 unfold bI
 cases hc : dI m a with
 | none => intro v hv; simp [vO] at hv
 | some c => exact h c (mU hc)
structure Tr (m : DMemory) (all : List Int) (met : List (Int × Unit)) : Prop where
 nd : all.Nodup
 mem : ∀ x, x ∈ met.map (·.1) ↔ x ∈ all
 has : ∀ x ∈ all, aT m x = true
theorem Tr.len {m : DMemory} {roots : List DValue} (hs : Small m roots) {all : List Int} {met : List (Int × Unit)} (h : Tr m all met) : all.length ≤ 1200 := te 1200 h.nd fun x hx => ⟨by have := mG (h.has x hx); omega, by have := qM hs (h.has x hx); omega⟩
theorem Tr.in64 {m : DMemory} {roots : List DValue} (hs : Small m roots) {all : List Int} {met : List (Int × Unit)} (h : Tr m all met) {x : Int} (hx : x ∈ all) : in64 x := by
 have h1 := mG (h.has x hx)
 have h2 := qM hs (h.has x hx)
 unfold Go.Proofs.YtmbaennilhdieaaGreat.in64; omega
theorem Tr.add {m : DMemory} {all : List Int} {met : List (Int × Unit)} (h : Tr m all met) {x : Int} (hx : x ∉ all) (hh : aT m x = true) : Tr m (all ++ [x]) (na met x ()) := ⟨List.nodup_append.2 ⟨h.nd, by simp, fun a ha b hb e => by rw [List.mem_singleton] at hb; subst hb; subst e; exact hx ha⟩, fun y => by
 rw [F7, List.mem_append, List.mem_singleton, h.mem y]; exact Or.comm, fun y hy => by
 rcases List.mem_append.1 hy with hy | hy
 ·exact h.has y hy
 ·rw [List.mem_singleton] at hy; subst hy; exact hh⟩
def Jp (m : DMemory) (all : List Int) (k : Nat) : Prop := ∀ (i : Nat) (a x : Int), i < k → all[i]? = some a → x ∈ bn (bI m a) → aT m x = true → x ∈ all
theorem AG {m : DMemory} {roots : List DValue} (hs : Small m roots) (hw : W64 m) (a : Int) : (bn (bI m a)).length ≤ 2000 ∧ ∀ x ∈ bn (bI m a), in64 x := by
 have h1 := hs.at_ a
 have h2 := il (bI m a)
 refine ⟨by omega, fun x hx => ?_⟩
 obtain ⟨v, h3, rfl⟩ := wW hx
 exact hw.at_ a v h3
structure Gr where
 has : Int → Bool
 leads : Int → List Int
 opens : List Int → Int → List Int
def cL (has : Int → Bool) : List Int → List Int → List Int
 | row, [] => row
 | row, x :: l => cL has (bif has x && !decide (x ∈ row) then row ++ [x] else row) l
inductive Thr (g : Gr) : List Int → Nat → List Int → Prop
 | done {row : List Int} {k : Nat} : row.length ≤ k → Thr g row k row
 | step {row : List Int} {k : Nat} {a : Int} {r : List Int} : row[k]? = some a → Thr g (cL g.has row (g.leads a)) (k + 1) r → Thr g row k r
def gT (g : Gr) : List Int → List Int → List Int
 | row, [] => row
 | row, a :: avs => gT g (cL g.has row (g.opens row a)) avs
inductive Ord (g : Gr) : List Int → List Int → Prop
 | done {row : List Int} : gT g row row = row → Ord g row row
 | step {row r1 r : List Int} : gT g row row ≠ row → Thr g (gT g row row) row.length r1 → Ord g r1 r → Ord g row r
structure IsOrder (g : Gr) (roots : List Int) (b l : List Int) : Prop where
 strong : Thr g (cL g.has [] roots) 0 b
 all : Ord g b l
theorem eN (has : Int → Bool) : ∀ (row l : List Int), ∃ t, cL has row l = row ++ t ∧ (∀ x ∈ t, has x = true ∧ x ∈ l)
 | row, [] => ⟨[], by simp [cL], by simp⟩
 | row, x :: l => by
  unfold cL
  cases h : has x && !decide (x ∈ row) with
  | false =>
   obtain ⟨t, h1, h2⟩ := eN has row l
   exact ⟨t, h1, fun y hy => ⟨(h2 y hy).1, by simp [(h2 y hy).2]⟩⟩
  | true =>
   obtain ⟨t, h1, h2⟩ := eN has (row ++ [x]) l
   refine ⟨x :: t, by rw [cond_true, h1]; simp, fun y hy => ?_⟩
   rw [Bool.and_eq_true] at h
   rcases List.mem_cons.1 hy with e | hy
   ·subst e; exact ⟨h.1, by simp⟩
   exact ⟨(h2 y hy).1, by simp [(h2 y hy).2]⟩
theorem mD (has : Int → Bool) : ∀ (row l l' : List Int), cL has row (l ++ l') = cL has (cL has row l) l'
 | _, [], _ => rfl
 | row, x :: l, l' => by
  show cL has _ (l ++ l') = _
  rw [mD has _ l l']; rfl
theorem kw {has : Int → Bool} : ∀ {row : List Int} (l : List Int), row.Nodup → (cL has row l).Nodup
 | _, [], h => h
 | row, x :: l, h => by
  unfold cL
  cases h2 : has x && !decide (x ∈ row) with
  | false => exact kw l h
  | true =>
   rw [Bool.and_eq_true] at h2
   have hx : x ∉ row := by simpa using h2.2
   exact kw l (List.nodup_append.2 ⟨h, by simp, fun a ha b hb e => by rw [List.mem_singleton] at hb; subst hb; subst e; exact hx ha⟩)
theorem ox {has : Int → Bool} : ∀ (row l : List Int) {x : Int}, x ∈ l → has x = true → x ∈ cL has row l
 | row, y :: l, x, h, hx => by
  unfold cL
  rcases List.mem_cons.1 h with e | h
  ·subst e
   obtain ⟨t, h1, -⟩ := eN has (bif has x && !decide (x ∈ row) then row ++ [x] else row) l
   rw [h1]
   refine List.mem_append_left _ ?_
   rw [hx, Bool.true_and]
   by_cases hm : x ∈ row <;> simp [hm]
  exact ox _ l h hx
theorem ts {has : Int → Bool} {row l : List Int} {x : Int} (h : x ∈ cL has row l) : x ∈ row ∨ (has x = true ∧ x ∈ l) := by
 obtain ⟨t, h1, h2⟩ := eN has row l
 rw [h1] at h
 rcases List.mem_append.1 h with h | h
 ·exact .inl h
 exact .inr (h2 x h)
theorem lV (g : Gr) : ∀ (row avs : List Int), ∃ t, gT g row avs = row ++ t
 | row, [] => ⟨[], by simp [gT]⟩
 | row, a :: avs => by
  obtain ⟨t, h1, -⟩ := eN g.has row (g.opens row a)
  obtain ⟨t2, h2⟩ := lV g (cL g.has row (g.opens row a)) avs
  exact ⟨t ++ t2, by unfold gT; rw [h2, h1, List.append_assoc]⟩
theorem ud (g : Gr) : ∀ (row avs bs : List Int), gT g row (avs ++ bs) = gT g (gT g row avs) bs
 | _, [], _ => rfl
 | row, a :: avs, bs => by
  show gT g _ (avs ++ bs) = _
  rw [ud g _ avs bs]; rfl
theorem uI {g : Gr} : ∀ {row : List Int} (avs : List Int), row.Nodup → (gT g row avs).Nodup
 | _, [], h => h
 | _, _ :: avs, h => uI avs (kw _ h)
theorem ye {g : Gr} : ∀ {row : List Int} (avs : List Int), (∀ x ∈ row, g.has x = true) → ∀ x ∈ gT g row avs, g.has x = true
 | _, [], h => h
 | _, _ :: avs, h => ye avs fun x hx => (ts hx).elim (h x) (·.1)
theorem Thr.app {g : Gr} {row r : List Int} {k : Nat} (h : Thr g row k r) : ∃ t, r = row ++ t := by
 induction h with
 | done _ => exact ⟨[], by simp⟩
 | step _ _ ih =>
  rename_i row _ a _ _ _
  obtain ⟨t, rfl⟩ := ih
  obtain ⟨t2, h1, -⟩ := eN g.has row (g.leads a)
  exact ⟨t2 ++ t, by rw [h1, List.append_assoc]⟩
theorem Thr.nodup {g : Gr} {row r : List Int} {k : Nat} (h : Thr g row k r) (hn : row.Nodup) : r.Nodup := by
 induction h with
 | done _ => exact hn
 | step _ _ ih => exact ih (kw _ hn)
theorem Thr.has {g : Gr} {row r : List Int} {k : Nat} (h : Thr g row k r) (hn : ∀ x ∈ row, g.has x = true) : ∀ x ∈ r, g.has x = true := by
 induction h with
 | done _ => exact hn
 | step _ _ ih => exact ih fun x hx => (ts hx).elim (hn x) (·.1)
theorem Thr.det {g : Gr} {row r r' : List Int} {k : Nat} (h : Thr g row k r) (h' : Thr g row k r') : r = r' := by
 induction h with
 | done hk =>
  cases h' with
  | done _ => rfl
  | step ha _ => rw [List.getElem?_eq_none hk] at ha; cases ha
 | step ha _ ih =>
  cases h' with
  | done hk => rw [List.getElem?_eq_none hk] at ha; cases ha
  | step ha' h2 => rw [ha] at ha'; cases ha'; exact ih h2
theorem Ord.det {g : Gr} {row r r' : List Int} (h : Ord g row r) (h' : Ord g row r') : r = r' := by
 induction h with
 | done hk =>
  cases h' with
  | done _ => rfl
  | step ha _ _ => exact absurd hk ha
 | step ha h1 _ ih =>
  cases h' with
  | done hk => exact absurd hk ha
  | step _ h1' h2 => exact ih (h1.det h1' ▸ h2)
theorem IsOrder.det {g : Gr} {roots b l b' l' : List Int} (h : IsOrder g roots b l) (h' : IsOrder g roots b' l') : b = b' ∧ l = l' := by
 obtain ⟨h1, h2⟩ := h
 obtain ⟨h3, h4⟩ := h'
 have e := h1.det h3
 subst e
 exact ⟨rfl, h2.det h4⟩
theorem Ord.app {g : Gr} {row r : List Int} (h : Ord g row r) : ∃ t, r = row ++ t := by
 induction h with
 | done _ => exact ⟨[], by simp⟩
 | step _ h1 _ ih =>
  rename_i row r1 _ _ _
  obtain ⟨t, rfl⟩ := ih
  obtain ⟨t1, rfl⟩ := h1.app
  obtain ⟨t2, h2⟩ := lV g row row
  exact ⟨t2 ++ t1 ++ t, by rw [h2]; simp [List.append_assoc]⟩
theorem Ord.nodup {g : Gr} {row r : List Int} (h : Ord g row r) (hn : row.Nodup) : r.Nodup := by
 induction h with
 | done _ => exact hn
 | step _ h1 _ ih => exact ih (h1.nodup (uI _ hn))
theorem Ord.has {g : Gr} {row r : List Int} (h : Ord g row r) (hn : ∀ x ∈ row, g.has x = true) : ∀ x ∈ r, g.has x = true := by
 induction h with
 | done _ => exact hn
 | step _ h1 _ ih => exact ih (h1.has (ye _ hn))
theorem IsOrder.nodup {g : Gr} {roots b l : List Int} (h : IsOrder g roots b l) : b.Nodup ∧ l.Nodup :=
 have hb := h.strong.nodup (kw _ List.nodup_nil)
 ⟨hb, h.all.nodup hb⟩
theorem IsOrder.has {g : Gr} {roots b l : List Int} (h : IsOrder g roots b l) : (∀ x ∈ b, g.has x = true) ∧ ∀ x ∈ l, g.has x = true :=
 have hb := h.strong.has fun x hx => (ts hx).elim (fun h => by cases h) (·.1)
 ⟨hb, h.all.has hb⟩
theorem IsOrder.sub {g : Gr} {roots b l : List Int} (h : IsOrder g roots b l) {x : Int} (hx : x ∈ b) : x ∈ l := by
 obtain ⟨t, e⟩ := h.all.app
 rw [e]; exact List.mem_append_left _ hx
theorem IsOrder.roots {g : Gr} {roots b l : List Int} (h : IsOrder g roots b l) {x : Int} (hx : x ∈ roots) (hh : g.has x = true) : x ∈ b := by
 obtain ⟨t, e⟩ := h.strong.app
 rw [e]; exact List.mem_append_left _ (ox _ _ hx hh)
def CloG (g : Gr) (row : List Int) (k : Nat) : Prop := ∀ (i : Nat) (a x : Int), i < k → row[i]? = some a → x ∈ g.leads a → g.has x = true → x ∈ row
theorem CloG.app {g : Gr} {row t : List Int} {k : Nat} (hk : k ≤ row.length) (h : CloG g row k) : CloG g (row ++ t) k := fun i a x hi ha hx hh => by
 rw [List.getElem?_append_left (by omega)] at ha
 exact List.mem_append_left _ (h i a x hi ha hx hh)
theorem Thr.clo {g : Gr} {row r : List Int} {k : Nat} (h : Thr g row k r) (hk : k ≤ row.length) (hc : CloG g row k) : CloG g r r.length := by
 induction h with
 | done hk2 => intro i a x hi ha hx hh; exact hc i a x (by omega) ha hx hh
 | step ha _ ih =>
  rename_i row k a _ _
  have hlt := (List.getElem?_eq_some_iff.1 ha).1
  obtain ⟨t, h1, -⟩ := eN g.has row (g.leads a)
  refine ih (by rw [h1, List.length_append]; omega) fun i b x hi hb hx hh => ?_
  by_cases e : i = k
  ·subst e
   rw [h1, List.getElem?_append_left hlt, ha] at hb
   cases hb
   exact ox _ _ hx hh
  rw [h1] at hb ⊢
  exact (CloG.app hk hc (t := t)) i b x (by omega) hb hx hh
theorem yf {g : Gr} : ∀ {row avs : List Int}, gT g row avs = row → ∀ a ∈ avs, ∀ x ∈ g.opens row a, g.has x = true → x ∈ row
 | row, b :: avs, h, a, ha, x, hx, hh => by
  have h1 : cL g.has row (g.opens row b) = row := by
   obtain ⟨t, e1, -⟩ := eN g.has row (g.opens row b)
   obtain ⟨t2, e2⟩ := lV g (cL g.has row (g.opens row b)) avs
   have h3 : row ++ t ++ t2 = row := by rw [← e1, ← e2]; exact h
   have h4 := congrArg List.length h3
   simp only [List.length_append] at h4
   have h5 : t = [] := List.eq_nil_of_length_eq_zero (by omega)
   rw [e1, h5, List.append_nil]
  rcases List.mem_cons.1 ha with e | ha
  ·subst e; have := ox row _ hx hh; rwa [h1] at this
  refine yf (avs := avs) ?_ a ha x hx hh
  unfold gT at h; rw [h1] at h; exact h
theorem Ord.closed {g : Gr} {row r : List Int} (h : Ord g row r) (hc : CloG g row row.length) : CloG g r r.length ∧ ∀ a ∈ r, ∀ x ∈ g.opens r a, g.has x = true → x ∈ r := by
 induction h with
 | done hp => exact ⟨hc, yf hp⟩
 | step _ h1 _ ih =>
  rename_i row _ _ _ _
  obtain ⟨t, e⟩ := lV g row row
  refine ih (h1.clo (by rw [e, List.length_append]; omega) ?_)
  rw [e]; exact hc.app (Nat.le_refl _)
theorem IsOrder.closed {g : Gr} {roots b l : List Int} (h : IsOrder g roots b l) : (∀ a ∈ l, ∀ x ∈ g.leads a, g.has x = true → x ∈ l) ∧ ∀ a ∈ l, ∀ x ∈ g.opens l a, g.has x = true → x ∈ l := by
 obtain ⟨h1, h2⟩ := h.all.closed (h.strong.clo (Nat.zero_le _) fun i _ _ hi => absurd hi (by omega))
 refine ⟨fun a ha x hx hh => ?_, h2⟩
 obtain ⟨i, hi, e⟩ := List.getElem_of_mem ha
 exact h1 i a x hi (by rw [List.getElem?_eq_getElem hi, e]) hx hh
structure ClosedS (g : Gr) (S : Int → Prop) : Prop where
 leads : ∀ a, S a → ∀ x ∈ g.leads a, g.has x = true → S x
 opens : ∀ row : List Int, (∀ x ∈ row, S x) → ∀ a, S a → ∀ x ∈ g.opens row a, g.has x = true → S x
def uP (N : Nat) (m : DMemory) : Gr := ⟨aT m, fun a => bn (bI m a), fun row a => bE N (bI m a) row⟩
def bJ (l : List DValue) : List Int := (l.filter bj).map (·.N)
theorem qV (l l' : List DValue) : bJ (l ++ l') = bJ l ++ bJ l' := by unfold bJ; simp
theorem lZ {l : List DValue} {x : Int} : x ∈ bJ l ↔ ∃ v ∈ l, bj v = true ∧ v.N = x := by
 unfold bJ; simp only [List.mem_map, List.mem_filter]
 constructor
 ·rintro ⟨v, ⟨h1, h2⟩, h3⟩; exact ⟨v, h1, h2, h3⟩
 rintro ⟨v, h1, h2, h3⟩; exact ⟨v, ⟨h1, h2⟩, h3⟩
theorem zz (N : Nat) {m : DMemory} {roots : List DValue} (hN : 5000 < N) (hs : Small m roots) (d : Int) (l : List Int) (hl : l.length ≤ 2000) (h64 : ∀ x ∈ l, in64 x) {all : List Int} {met : List (Int × Unit)} (ht : Tr m all met) :
  Sat (dk N ⟨m, all, met, d⟩ l) fun r => r.m_ = m ∧ r.done_ = d ∧ Tr m r.all_ r.met_ ∧ r.all_ = cL (aT m) all l := by
 unfold dk
 refine ck (fun k i (s : List Int × List (Int × Unit)) => reach_row_lay_l7 N l ⟨m, all, met, d⟩ k (i : Int) s.1 s.2) l.length (fun i s => Tr m s.1 s.2 ∧ s.1 = cL (aT m) all (l.take i)) _ ?_ ?_ N 0 (all, met) (by omega) (by omega) ⟨ht, rfl⟩
 ·rintro k i ⟨al, mt⟩ hi ⟨h1, h2⟩ go
  show Sat (reach_row_lay_l7 N l ⟨m, all, met, d⟩ (k + 1) i al mt) _
  simp only at h1 h2
  have hx64 := h64 l[i] (List.getElem_mem _)
  have hnext : cL (aT m) all (l.take (i + 1)) = (bif aT m l[i] && !decide (l[i] ∈ al) then al ++ [l[i]] else al) := by
   rw [aP hi, mD, ← h2]; rfl
  rw [reach_row_lay_l7.eq_2, cv (by omega), ct, aU hi, bs, Hy]
  unfold fa
  rw [r64 (a := (i : Int) + 1) (by omega) (by omega), r64 (a := (i : Int) + 1) (by omega) (by omega)]
  by_cases hm : l[i] ∈ al
  ·rw [decide_eq_true ((h1.mem _).2 hm)]
   simp only [nt, cf, bs]
   exact go (al, mt) ⟨h1, by rw [hnext, decide_eq_true hm]; simp⟩
  rw [decide_eq_false (fun h => hm ((h1.mem _).1 h))]
  simp only [nf, ct, bs, jR N m _ hx64]
  cases hh : aT m l[i]
  ·simp only [cf]
   exact go (al, mt) ⟨h1, by rw [hnext, hh]; rfl⟩
  simp only [ct]
  have hlen := h1.len hs
  rw [rF (by simp; omega)]
  exact go (al ++ [l[i]], na mt l[i] ()) ⟨h1.add hm hh, by rw [hnext, hh, decide_eq_false hm]; rfl⟩
 rintro k ⟨al, mt⟩ ⟨h1, h2⟩
 show Sat (reach_row_lay_l7 N l ⟨m, all, met, d⟩ (k + 1) _ al mt) _
 rw [reach_row_lay_l7.eq_2, cp (by omega), cf]
 exact aE ⟨rfl, rfl, h1, by simpa using h2⟩
theorem uA (N : Nat) (hN : 5000 < N) {m : DMemory} {roots : List DValue} (hs : Small m roots) (hw : W64 m) {all : List Int} {met : List (Int × Unit)} (ht : Tr m all met) (k : Nat) (hk : k ≤ all.length) :
  Sat (ei N ⟨m, all, met, (k : Int)⟩) fun r => r.m_ = m ∧ r.done_ = (r.all_.length : Int) ∧ Tr m r.all_ r.met_ ∧ Thr (uP N m) all k r.all_ := by
 unfold ei
 refine i4 (fun f (s : List Int × List (Int × Unit) × Nat) => reach_row_through_l6 N f m.Young m.Old s.1 s.2.1 (s.2.2 : Int)) (fun s => 1300 - s.2.2) (fun s => Tr m s.1 s.2.1 ∧ s.2.2 ≤ s.1.length ∧ ∀ r, Thr (uP N m) s.1 s.2.2 r → Thr (uP N m) all k r) _ ?_ N (all, met, k) (by show 1300 - k < N; omega) ⟨ht, hk, fun _ h => h⟩
 rintro f ⟨al, mt, j⟩ ⟨h1, h3, h4⟩ go
 show Sat (reach_row_through_l6 N (f + 1) m.Young m.Old al mt (j : Int)) _
 simp only at h1 h3 h4
 have hlen := h1.len hs
 rw [reach_row_through_l6.eq_2]
 by_cases hj : j < al.length
 ·have hx := List.getElem_mem hj
  have hat := tN N hs al[j] (h1.in64 hs hx)
  have hsm := hs.at_ al[j]
  obtain ⟨hl1, hl2⟩ := AG hs hw al[j]
  rw [cv (by omega), ct, aU hj, bs]
  have hat' : eb N ⟨m.Young, m.Old⟩ al[j] = some (bI m al[j]) := hat
  rw [hat', bs, jl N (by omega) _ (by omega) (by omega), bs]
  refine Sat.bind (zz N hN hs (j : Int) _ hl1 hl2 h1) ?_
  rintro ⟨m', al', mt', d'⟩ ⟨e1, e2, h5, h6⟩
  simp only at e1 e2 h5 h6
  subst e1 e2
  have hlen' := h5.len hs
  dsimp only
  rw [r64 (by omega) (by omega)]
  have hge : al.length ≤ al'.length := by
   obtain ⟨t, e, -⟩ := eN (aT m') al (bn (bI m' al[j]))
   rw [h6, e, List.length_append]; omega
  have hgo := go (al', mt', j + 1) (by show 1300 - (j + 1) < 1300 - j; omega) ⟨h5, by show j + 1 ≤ al'.length; omega, fun r hr => h4 r (.step (List.getElem?_eq_getElem hj) (by rw [h6] at hr; exact hr))⟩
  simpa using hgo
 have : j = al.length := by omega
 subst this
 rw [cp (by omega), cf]
 exact aE ⟨rfl, rfl, h1, h4 _ (.done (Nat.le_refl _))⟩
theorem Ej (N : Nat) (hN : 5000 < N) {m : DMemory} {roots : List DValue} (hs : Small m roots) (hw : W64 m) (hr : ∀ v ∈ roots, in64 v.N) :
  Sat (iT N m roots) fun r => r.m_ = m ∧ r.done_ = (r.all_.length : Int) ∧ Tr m r.all_ r.met_ ∧ Thr (uP N m) (cL (aT m) [] (bJ roots)) 0 r.all_ := by
 have hrl := hs.roots
 unfold iT
 refine ck (fun k i (s : List Int × List (Int × Unit)) => reach_begin_l14 N roots k (i : Int) m.Young m.Old s.1 s.2 0) roots.length (fun i s => Tr m s.1 s.2 ∧ s.1 = cL (aT m) [] (bJ (roots.take i))) _ ?_ ?_ N 0 ([], []) (by omega) (by omega) ⟨⟨by simp, by simp, by simp⟩, rfl⟩
 ·rintro k i ⟨al, mt⟩ hi ⟨h1, h2⟩ go
  show Sat (reach_begin_l14 N roots (k + 1) (i : Int) m.Young m.Old al mt 0) _
  simp only at h1 h2
  have hx64 := hr roots[i] (List.getElem_mem _)
  have ha : cG N roots[i] = some (roots[i].N, bj roots[i]) := by
   unfold cG; rw [i5, bs]
  have hnext : cL (aT m) [] (bJ (roots.take (i + 1))) = cL (aT m) al (bJ [roots[i]]) := by
   rw [aP hi, qV, mD, ← h2]
  rw [reach_begin_l14.eq_2, cv (by omega), ct, aU hi, bs]
  unfold kg
  rw [ha, bs]
  cases hb : bj roots[i]
  ·simp only [cf, bs]
   rw [r64 (by omega) (by omega)]
   refine go (al, mt) ⟨h1, ?_⟩
   rw [hnext]; simp [bJ, hb, cL]
  simp only [ct]
  obtain ⟨⟨m', al', mt', d'⟩, e0, e1, e2, h5, h6⟩ := zz N hN hs 0 [roots[i].N] (by simp) (by intro x hx; rw [List.mem_singleton] at hx; subst hx; exact hx64) h1
  simp only at e1 e2 h5 h6
  subst e1 e2
  have e0' : dk N ⟨⟨m'.Young, m'.Old⟩, al, mt, 0⟩ [roots[i].N] = some ⟨m', al', mt', 0⟩ := e0
  rw [e0', bs, bs]
  dsimp only
  rw [r64 (by omega) (by omega)]
  refine go (al', mt') ⟨h5, ?_⟩
  show al' = _
  rw [hnext, h6]; simp [bJ, hb]
 rintro k ⟨al, mt⟩ ⟨h1, h2⟩
 show Sat (reach_begin_l14 N roots (k + 1) _ m.Young m.Old al mt 0) _
 rw [reach_begin_l14.eq_2, cp (by omega), cf]
 unfold mn
 refine Sat.bind (uA N hN hs hw h1 0 (Nat.zero_le _)) ?_
 rintro r ⟨e1, e2, h5, h6⟩
 simp only [List.take_length] at h2
 exact aE ⟨e1, e2, h5, by rw [← h2]; exact h6⟩
theorem Au (N : Nat) {m : DMemory} {roots : List DValue} (hs : Small m roots) (hw : W64 m) (a : Int) (l : List Int) : (bE N (bI m a) l).length ≤ 2000 ∧ ∀ x ∈ bE N (bI m a) l, in64 x := by
 have h1 := hs.at_ a
 have h2 := wF N (bI m a) l
 refine ⟨by omega, fun x hx => ?_⟩
 obtain ⟨v, h3, rfl⟩ := BT hx
 exact hw.at_ a v h3
theorem EQ (N : Nat) (hN : 5000 < N) {m : DMemory} {roots : List DValue} (hs : Small m roots) (hw : W64 m) {all : List Int} {met : List (Int × Unit)} (ht : Tr m all met) (d : Int) :
  Sat (fK N ⟨m, all, met, d⟩) fun r => r.2.m_ = m ∧ r.2.done_ = d ∧ Tr m r.2.all_ r.2.met_ ∧ r.1 = decide ((all.length : Int) < (r.2.all_.length : Int)) ∧ r.2.all_ = gT (uP N m) all all := by
 have hlen := ht.len hs
 unfold fK
 refine ck (fun k i (s : List Int × List (Int × Unit)) => reach_row_pass_l13 N ⟨m, all, met, d⟩ k (i : Int) m.Young m.Old s.1 s.2 d) all.length (fun i s => Tr m s.1 s.2 ∧ (∃ t, s.1 = all ++ t) ∧ s.1 = gT (uP N m) all (all.take i)) _ ?_ ?_ N 0 (all, met) (by omega) (by omega) ⟨ht, ⟨[], by simp⟩, rfl⟩
 ·rintro k i ⟨al, mt⟩ hi ⟨h1, ⟨t, h2⟩, h3⟩ go
  show Sat (reach_row_pass_l13 N ⟨m, all, met, d⟩ (k + 1) (i : Int) m.Young m.Old al mt d) _
  simp only at h1 h2 h3
  have hlen1 := h1.len hs
  have htk : List.take all.length al = all := by rw [h2, List.take_left']; rfl
  have hx := List.getElem_mem hi
  have hsm := hs.at_ all[i]
  have hat : eb N ⟨m.Young, m.Old⟩ all[i] = some (bI m all[i]) := tN N hs all[i] (ht.in64 hs hx)
  have hnext : gT (uP N m) all (all.take (i + 1)) = cL (aT m) al (bE N (bI m all[i]) al) := by
   rw [aP hi, ud, ← h3]; rfl
  rw [reach_row_pass_l13.eq_2]
  simp only [List.take_length]
  rw [cv (by omega), ct, htk, aU hi, bs, hat, bs]
  unfold gg
  by_cases h8 : (bI m all[i]).Kind = 8
  ·rw [lQ h8, ct, wD N hN al (by omega) _ (by omega) (by omega), bs]
   obtain ⟨hl1, hl2⟩ := Au N hs hw all[i] al
   obtain ⟨⟨m', al', mt', d'⟩, e0, e1, e2, h5, h6⟩ := zz N hN hs d _ hl1 hl2 h1
   simp only at e1 e2 h5 h6
   subst e1 e2
   have e0' : dk N ⟨⟨m'.Young, m'.Old⟩, al, mt, d'⟩ (bE N (bI m' all[i]) al) = some ⟨m', al', mt', d'⟩ := e0
   rw [e0', bs]
   dsimp only
   rw [r64 (by omega) (by omega)]
   obtain ⟨t', e', -⟩ := eN (aT m') al (bE N (bI m' all[i]) al)
   exact go (al', mt') ⟨h5, ⟨t ++ t', by show al' = _; rw [h6, e', h2, List.append_assoc]⟩, by show al' = _; rw [hnext, h6]⟩
  rw [eO h8, cf, r64 (by omega) (by omega)]
  refine go (al, mt) ⟨h1, ⟨t, h2⟩, ?_⟩
  have h0 : bE N (bI m all[i]) al = [] := by
   unfold bE gB
   rw [eO h8]; rfl
  show al = _
  rw [hnext, h0]; rfl
 rintro k ⟨al, mt⟩ ⟨h1, ⟨t, h2⟩, h3⟩
 show Sat (reach_row_pass_l13 N ⟨m, all, met, d⟩ (k + 1) _ m.Young m.Old al mt d) _
 rw [reach_row_pass_l13.eq_2]
 simp only [List.take_length] at h3 ⊢
 rw [cp (by omega), cf]
 exact aE ⟨rfl, rfl, h1, rfl, h3⟩
theorem lW (N : Nat) (hN : 5000 < N) {m : DMemory} {roots : List DValue} (hs : Small m roots) (hw : W64 m) (hr : ∀ v ∈ roots, in64 v.N) :
  ∃ b all, IsOrder (uP N m) (bJ roots) b.all_ all ∧ all.length ≤ 1200 ∧ b.all_.length ≤ 1200 ∧ iT N m roots = some b ∧ co N m roots = some all := by
 obtain ⟨⟨m', al0, mt0, d0⟩, e0, e1, e2, h1, h2⟩ := Ej N hN hs hw hr
 simp only at e1 e2 h1 h2
 subst e1 e2
 have hlen0 := h1.len hs
 have key : Sat (co N m' roots) fun all => Ord (uP N m') al0 all ∧ all.length ≤ 1200 := by
  unfold co
  rw [e0, bs]
  refine i4 (fun f (s : List Int × List (Int × Unit)) => reach_Order_l17 N f m'.Young m'.Old s.1 s.2 (s.1.length : Int)) (fun s => 1300 - s.1.length) (fun s => Tr m' s.1 s.2 ∧ ∀ r, Ord (uP N m') s.1 r → Ord (uP N m') al0 r) _ ?_ N (al0, mt0) (by show 1300 - al0.length < N; omega) ⟨h1, fun _ h => h⟩
  rintro f ⟨al, mt⟩ ⟨h4, h5⟩ go
  show Sat (reach_Order_l17 N (f + 1) m'.Young m'.Old al mt (al.length : Int)) _
  simp only at h4 h5
  have hlen := h4.len hs
  rw [reach_Order_l17.eq_2]
  obtain ⟨⟨b, m2, al2, mt2, d2⟩, g0, g1, g2, g3, g5, g6⟩ := EQ N hN hs hw h4 (al.length : Int)
  simp only at g1 g2 g3 g5 g6
  subst g1 g2
  have hlen2 := g3.len hs
  have g0' : fK N ⟨⟨m2.Young, m2.Old⟩, al, mt, (al.length : Int)⟩ = some (b, ⟨m2, al2, mt2, (al.length : Int)⟩) := g0
  obtain ⟨t2, ht2⟩ := lV (uP N m2) al al
  rw [g0', bs]
  dsimp only
  rw [g5]
  refine df (fun hlt => ?_) fun hge => ?_
  ·refine Sat.bind (uA N hN hs hw g3 al.length (by omega)) ?_
   rintro ⟨m3, al3, mt3, d3⟩ ⟨k1, k2, k3, k4⟩
   simp only at k1 k2 k3 k4
   subst k1 k2
   have hlen3 := k3.len hs
   refine go (al3, mt3) ?_ ⟨k3, fun r h => h5 r (.step ?_ (by rw [← g6]; exact k4) h)⟩
   ·show 1300 - al3.length < 1300 - al.length
    obtain ⟨t3, e3⟩ := k4.app
    have : al2.length ≤ al3.length := by rw [e3, List.length_append]; omega
    omega
   rw [← g6]; intro e; rw [e] at hlt; omega
  have e : al2 = al := by
   rw [ht2] at g6
   have h0 : t2 = [] := List.eq_nil_of_length_eq_zero (by rw [g6, List.length_append] at hge; omega)
   rw [g6, h0, List.append_nil]
  subst e
  unfold lz
  exact aE ⟨h5 _ (.done g6.symm), by omega⟩
 obtain ⟨all, k1, k2, k3⟩ := key
 exact ⟨⟨m', al0, mt0, (al0.length : Int)⟩, all, ⟨h2, k2⟩, k3, hlen0, e0, k1⟩
theorem qz (l : List Int) (x : Int) : x ∈ fI l ↔ x ∈ l := by unfold fI; exact List.mem_mergeSort
theorem xW {l : List Int} (h : l.Nodup) : (fI l).Pairwise (· < ·) := by
 have h1 : (fI l).Pairwise fun a b => decide (a ≤ b) = true := List.pairwise_mergeSort (by intro a b c h1 h2; simp at *; omega) (by intro a b; simp; omega) l
 have h2 : (fI l).Nodup := (List.mergeSort_perm l _).nodup_iff.2 h
 rw [List.nodup_iff_pairwise_ne] at h2
 exact h1.imp₂ (fun a b h3 h4 => by simp at h3; omega) h2
theorem sG {l s : List Int} (h : l.Nodup) (hs : s.Pairwise (· < ·)) (he : ∀ x, x ∈ l ↔ x ∈ s) : fI l = s := Do (xW h) hs fun x => (qz l x).trans (he x)
theorem DA (N : Nat) (l : List Int) (h : l.length ≤ 5000) : kE N l = some (fI l) := by
 unfold kE; rw [rF (by omega)]
def Jg (n : Int) : DValue := ⟨7, n, ⟨#[]⟩⟩
def I3 (l : List DValue) : DCell := ⟨11, 0, 0, 0, [], l⟩
def Jj : DMemory := ⟨[⟨11, 0, 0, 0, [], [⟨7, 3, ⟨#[]⟩⟩, ⟨7, 2, ⟨#[]⟩⟩]⟩, ⟨11, 0, 0, 0, [], []⟩], [⟨11, 0, 0, 0, [], []⟩]⟩
def Ji : DMemory := ⟨[⟨8, 0, 0, 0, [⟨1, 0, ⟨#[]⟩⟩], [⟨7, 3, ⟨#[]⟩⟩, ⟨7, 5, ⟨#[]⟩⟩]⟩, ⟨11, 0, 0, 0, [], []⟩, ⟨11, 0, 0, 0, [], []⟩], []⟩
theorem zy {N : Nat} {m : DMemory} {roots : List DValue} {l s : List Int} (h : co N m roots = some l) (hl : l.length ≤ 5000) (hs : fI l = s) : fb N m roots = some s := by
 unfold fb
 rw [h, bs, DA N l hl, bs, hs]
structure Tq (m : DMemory) (all : List Int) : Prop where
 nd : all.Nodup
 has : ∀ x ∈ all, aT m x = true
theorem Tq.len {m : DMemory} {roots : List DValue} (hs : Small m roots) {all : List Int} (h : Tq m all) : all.length ≤ 1200 := te 1200 h.nd fun x hx => ⟨by have := mG (h.has x hx); omega, by have := qM hs (h.has x hx); omega⟩
theorem Tq.in64 {m : DMemory} {roots : List DValue} (hs : Small m roots) {all : List Int} (h : Tq m all) {x : Int} (hx : x ∈ all) : in64 x := by
 have h1 := mG (h.has x hx)
 have h2 := qM hs (h.has x hx)
 unfold Go.Proofs.YtmbaennilhdieaaGreat.in64; omega
theorem Tq.lay {m : DMemory} {all : List Int} (h : Tq m all) (l : List Int) : Tq m (cL (aT m) all l) := ⟨kw l h.nd, fun x hx => (ts hx).elim (h.has x) (·.1)⟩
theorem wd (N : Nat) {m : DMemory} {roots : List DValue} (hN : 5000 < N) (hs : Small m roots) (l : List Int) (hl : l.length ≤ 2000) (h64 : ∀ x ∈ l, in64 x) {all : List Int} (ht : Tq m all) : lU N m all l = some (cL (aT m) all l) := by
 apply Sat.eq
 unfold lU
 refine ck (fun k i (s : List Int) => r19_lay_l8 N l m k s (i : Int)) l.length (fun i s => Tq m s ∧ s = cL (aT m) all (l.take i)) _ ?_ ?_ N 0 all (by omega) (by omega) ⟨ht, rfl⟩
 ·rintro k i s hi ⟨h0, h1⟩ go
  show Sat (r19_lay_l8 N l m (k + 1) s (i : Int)) _
  have hx64 := h64 l[i] (List.getElem_mem _)
  have hsl := h0.len hs
  have hnext : cL (aT m) all (l.take (i + 1)) = (bif aT m l[i] && !decide (l[i] ∈ s) then s ++ [l[i]] else s) := by
   rw [aP hi, mD, ← h1]; rfl
  have hT : Tq m (cL (aT m) all (l.take (i + 1))) := ht.lay _
  rw [r19_lay_l8.eq_2, cv (by omega), ct]
  simp only [aU hi, bs, vA N m _ hx64, ID N hN s (by omega) l[i]]
  unfold pN
  cases hh : aT m l[i]
  ·simp only [cf, bs]
   rw [r64 (by omega) (by omega)]
   exact go s ⟨h0, by rw [hnext, hh]; rfl⟩
  simp only [ct, bs]
  by_cases hm : l[i] ∈ s
  ·rw [decide_eq_true hm]
   simp only [nt, cf]
   rw [r64 (by omega) (by omega)]
   exact go s ⟨h0, by rw [hnext, hh, decide_eq_true hm]; rfl⟩
  have e : cL (aT m) all (l.take (i + 1)) = s ++ [l[i]] := by rw [hnext, hh, decide_eq_false hm]; rfl
  rw [decide_eq_false hm]
  simp only [nf, ct]
  rw [rF (by simp; omega), r64 (by omega) (by omega)]
  exact go (s ++ [l[i]]) ⟨e ▸ hT, e.symm⟩
 rintro k s ⟨h0, h1⟩
 show Sat (r19_lay_l8 N l m (k + 1) s _) _
 rw [r19_lay_l8.eq_2, cp (by omega), cf]
 exact aE (by simpa using h1)
theorem DF (N : Nat) (hN : 5000 < N) (l : List DValue) (hl : l.length ≤ 2000) : jb N l = some (bJ l) := by
 apply Sat.eq
 unfold jb
 refine ck (fun k i (s : List Int) => r19_addresses_l5 N l k s (i : Int)) l.length (fun i s => s = bJ (l.take i)) _ ?_ ?_ N 0 [] (by omega) (by omega) rfl
 ·rintro k i s hi h1 go
  show Sat (r19_addresses_l5 N l (k + 1) s (i : Int)) _
  have hsl : s.length ≤ 2000 := by
   rw [h1]; unfold bJ; rw [List.length_map]
   exact Nat.le_trans (List.length_filter_le _ _) (by rw [List.length_take]; omega)
  have hnext : bJ (l.take (i + 1)) = s ++ bJ [l[i]] := by rw [aP hi, qV, h1]
  rw [r19_addresses_l5.eq_2, cv (by omega), ct]
  simp only [aU hi, bs, i5]
  unfold kk
  cases hb : bj l[i]
  ·simp only [cf]
   rw [r64 (by omega) (by omega)]
   exact go s (by rw [hnext]; simp [bJ, hb])
  simp only [ct]
  rw [rF (by simp; omega), r64 (by omega) (by omega)]
  exact go (s ++ [l[i].N]) (by rw [hnext]; simp [bJ, hb])
 rintro k s h1
 show Sat (r19_addresses_l5 N l (k + 1) s _) _
 rw [r19_addresses_l5.eq_2, cp (by omega), cf]
 exact aE (by simpa using h1)
theorem sI (N : Nat) (hN : 5000 < N) {m : DMemory} {roots : List DValue} (hs : Small m roots) (hw : W64 m) {all : List Int} (ht : Tq m all) (k : Nat) (hk : k ≤ all.length) :
  Sat (gI N m all (k : Int)) fun r => Tq m r ∧ Thr (uP N m) all k r := by
 unfold gI
 refine i4 (fun f (s : List Int × Nat) => r19_through_l7 N m f s.1 (s.2 : Int)) (fun s => 1300 - s.2) (fun s => Tq m s.1 ∧ s.2 ≤ s.1.length ∧ ∀ r, Thr (uP N m) s.1 s.2 r → Thr (uP N m) all k r) _ ?_ N (all, k) (by show 1300 - k < N; omega) ⟨ht, hk, fun _ h => h⟩
 rintro f ⟨al, j⟩ ⟨h1, h3, h4⟩ go
 show Sat (r19_through_l7 N m (f + 1) al (j : Int)) _
 simp only at h1 h3 h4
 have hlen := h1.len hs
 rw [r19_through_l7.eq_2]
 by_cases hj : j < al.length
 ·have hx := List.getElem_mem hj
  have hsm := hs.at_ al[j]
  obtain ⟨hl1, hl2⟩ := AG hs hw al[j]
  rw [cv (by omega), ct, aU hj, bs, zZ N m _ (h1.in64 hs hx), bs, DX N (by omega) _ (by omega) (by omega), bs, wd N hN hs _ hl1 hl2 h1, bs, r64 (by omega) (by omega)]
  have hge : al.length ≤ (cL (aT m) al (bn (bI m al[j]))).length := by
   obtain ⟨t, e, -⟩ := eN (aT m) al (bn (bI m al[j]))
   rw [e, List.length_append]; omega
  exact go (cL (aT m) al (bn (bI m al[j])), j + 1) (by show 1300 - (j + 1) < 1300 - j; omega) ⟨h1.lay _, by show j + 1 ≤ (cL (aT m) al (bn (bI m al[j]))).length; omega, fun r hr => h4 r (.step (List.getElem?_eq_getElem hj) hr)⟩
 have : j = al.length := by omega
 subst this
 rw [cp (by omega), cf]
 exact aE ⟨h1, h4 _ (.done (Nat.le_refl _))⟩
theorem wc (N : Nat) (hN : 5000 < N) {m : DMemory} {roots : List DValue} (hs : Small m roots) (hw : W64 m) (hr : ∀ v ∈ roots, in64 v.N) :
  ∃ b all, IsOrder (uP N m) (bJ roots) b all ∧ fX N m roots = some all ∧ ((jb N roots).bind fun y5 => (lU N m ([] : List Int) y5).bind fun y8 => gI N m y8 0) = some b := by
 have hrl := hs.roots
 have ha := DF N hN roots (by omega)
 have h64 : ∀ x ∈ bJ roots, in64 x := fun x hx => by
  obtain ⟨v, h1, -, rfl⟩ := lZ.1 hx
  exact hr v h1
 have hal : (bJ roots).length ≤ 2000 := by
  unfold bJ; rw [List.length_map]; exact Nat.le_trans (List.length_filter_le _ _) (by omega)
 have hT0 : Tq m [] := ⟨List.nodup_nil, by simp⟩
 have hlay := wd N hN hs (bJ roots) hal h64 hT0
 obtain ⟨b, b0, b1, b2⟩ := sI N hN hs hw (hT0.lay (bJ roots)) 0 (Nat.zero_le _)
 have b0' : gI N m (cL (aT m) [] (bJ roots)) 0 = some b := b0
 have key : Sat (fX N m roots) fun all => Ord (uP N m) b all := by
  unfold fX
  rw [ha, bs, hlay, bs, b0', bs]
  refine i4 (fun f (s : List Int) => r19_Order_l12 N m f s) (fun s => 1300 - s.length) (fun s => Tq m s ∧ ∀ r, Ord (uP N m) s r → Ord (uP N m) b r) _ ?_ N b (by show 1300 - b.length < N; omega) ⟨b1, fun _ h => h⟩
  rintro f al ⟨h4, h5⟩ go
  show Sat (r19_Order_l12 N m (f + 1) al) _
  have hlen := h4.len hs
  rw [r19_Order_l12.eq_2]
  refine ck (fun k i (s : List Int) => r19_Order_l16 N (r19_Order_l12 N m f) al m k s (i : Int)) al.length (fun i s => Tq m s ∧ (∃ t, s = al ++ t) ∧ s = gT (uP N m) al (al.take i)) _ ?_ ?_ N 0 al (by omega) (by omega) ⟨h4, ⟨[], by simp⟩, rfl⟩
  ·rintro k i s hi ⟨h0, ⟨t, h1⟩, h2⟩ go2
   show Sat (r19_Order_l16 N (r19_Order_l12 N m f) al m (k + 1) s (i : Int)) _
   have hsl := h0.len hs
   have hg : aG s (i : Int) = some al[i] := by
    rw [i6, h1, List.getElem?_append_left hi, List.getElem?_eq_getElem hi]
   have hx := List.getElem_mem hi
   have hsm := hs.at_ al[i]
   obtain ⟨hl1, hl2⟩ := Au N hs hw al[i] s
   have hnext : gT (uP N m) al (al.take (i + 1)) = cL (aT m) s (bE N (bI m al[i]) s) := by
    rw [aP hi, ud, ← h2]; rfl
   rw [r19_Order_l16.eq_2, cv (by omega), ct, hg, bs, zZ N m _ (h4.in64 hs hx), bs, DL N hN s (by omega) _ (by omega) (by omega), bs, wd N hN hs _ hl1 hl2 h0, bs, r64 (by omega) (by omega)]
   obtain ⟨t', e', -⟩ := eN (aT m) s (bE N (bI m al[i]) s)
   exact go2 _ ⟨h0.lay _, ⟨t ++ t', by rw [e', h1, List.append_assoc]⟩, hnext.symm⟩
  rintro k s ⟨h0, ⟨t, h1⟩, h2⟩
  show Sat (r19_Order_l16 N (r19_Order_l12 N m f) al m (k + 1) s _) _
  have hsl := h0.len hs
  simp only [List.take_length] at h2
  rw [r19_Order_l16.eq_2, cp (by omega), cf]
  unfold rz
  refine df (fun he => ?_) fun hne => ?_
  ·have h6 : t = [] := List.eq_nil_of_length_eq_zero (by rw [h1, List.length_append] at he; omega)
   have h7 : s = al := by rw [h1, h6, List.append_nil]
   exact aE (by rw [h7] at h2 ⊢; exact h5 _ (.done h2.symm))
  have hle : al.length ≤ s.length := by rw [h1, List.length_append]; omega
  refine Sat.bind (sI N hN hs hw h0 al.length hle) fun r ⟨r1, r2⟩ => ?_
  obtain ⟨t3, e3⟩ := r2.app
  have hl3 := r1.len hs
  refine go r ?_ ⟨r1, fun r' hr' => h5 r' (.step ?_ (by rw [← h2]; exact r2) hr')⟩
  ·show 1300 - r.length < 1300 - al.length
   have : s.length ≤ r.length := by rw [e3, List.length_append]; omega
   omega
  rw [← h2]; intro e; rw [e] at hne; omega
 obtain ⟨all, k1, k2⟩ := key
 exact ⟨b, all, ⟨b2, k2⟩, k1, by rw [ha, bs, hlay, bs]; exact b0'⟩
theorem xU : ∀ {s : List Int} {k : Nat} (h : k + 1 < s.length), ((s.set (k + 1) (s[k]'(by omega))).set k s[k + 1]).Perm s
 | a :: b :: r, 0, _ => List.Perm.swap a b r
 | a :: r, k + 1, h => by
  have ih := xU (s := r) (k := k) (by simpa using h)
  simp only [List.set_cons_succ, List.getElem_cons_succ]
  exact ih.cons a
def IN (s : List Int) (i k : Nat) : Prop := ∀ a b : Nat, a < b → b ≤ i → b ≠ k → s.getD a 0 ≤ s.getD b 0
theorem tt (s : List Int) (i j : Nat) (x : Int) (hi : i < s.length) : (s.set i x).getD j 0 = if j = i then x else s.getD j 0 := by
 by_cases e : j = i
 ·subst e; simp [List.getD, hi]
 rw [if_neg e]
 simp only [List.getD]
 rw [List.getElem?_set_ne (fun h => e h.symm)]
theorem qN (s : List Int) (i : Nat) (hi : i < s.length) : s.getD i 0 = s[i] := by simp [List.getD, hi]
theorem BG (N : Nat) (hN : 5000 < N) (l : List Int) (hl : l.length ≤ 2000) (hn : l.Nodup) : oN N l = some (fI l) := by
 apply Sat.eq
 unfold oN
 rw [rF (by simp; omega), List.nil_append]
 have fin : ∀ s : List Int, s.Perm l → IN s (l.length - 1) l.length → s = fI l := fun s hp hi => by
  have hlen := hp.length_eq
  have hnd : s.Nodup := hp.nodup_iff.2 hn
  refine (sG hn (List.pairwise_iff_getElem.2 fun a b ha hb hab => ?_) fun x => (hp.mem_iff).symm).symm
  have h1 := hi a b hab (by omega) (by omega)
  rw [qN s a ha, qN s b hb] at h1
  have h2 := List.pairwise_iff_getElem.1 (List.nodup_iff_pairwise_ne.1 hnd) a b ha hb hab
  omega
 by_cases h0 : l.length = 0
 ·have e : l = [] := List.eq_nil_of_length_eq_zero h0
  subst e
  obtain ⟨n, rfl⟩ : ∃ n, N = n + 1 := ⟨N - 1, by omega⟩
  rw [r19_rising_l7.eq_2, cp (by simp), cf]
  exact aE (by unfold fI; simp)
 refine ck (fun k i (s : List Int) => r19_rising_l7 N k s (i : Int)) l.length (fun i s => s.Perm l ∧ IN s (i - 1) l.length) _ ?_ ?_ N 1 l (by omega) (by omega) ⟨List.Perm.refl _, fun a b h1 h2 => absurd h2 (by omega)⟩
 ·rintro f i s hi ⟨h1, h2⟩ go
  show Sat (r19_rising_l7 N (f + 1) s (i : Int)) _
  have hlen := h1.length_eq
  rw [r19_rising_l7.eq_2, hlen, cv (by omega), ct]
  have hi0 : i ≤ l.length := by omega
  refine i4 (fun k (st : List Int × Nat) => r19_rising_l13 N (r19_rising_l7 N f) (i : Int) k st.1 (st.2 : Int)) (fun st => st.2) (fun st => st.1.Perm l ∧ st.2 ≤ i ∧ IN st.1 i st.2) _ ?_ N (s, i) (by show i < N; omega) ⟨h1, Nat.le_refl _, fun a b q1 q2 q3 => h2 a b q1 (by show b ≤ i - 1; simp only at q3; omega) (by omega)⟩
  rintro k ⟨t, j⟩ ⟨g1, g2, g3⟩ go2
  simp only at g1 g2 g3
  show Sat (r19_rising_l13 N (r19_rising_l7 N f) (i : Int) (k + 1) t (j : Int)) _
  have hlt := g1.length_eq
  have stop : (j = 0 ∨ t.getD (j - 1) 0 ≤ t.getD j 0) → Sat (mq N (r19_rising_l7 N f) (i : Int) t) (· = fI l) := fun hst => by
   unfold mq
   rw [r64 (by omega) (by omega)]
   refine go t ⟨g1, fun a b q1 q2 q3 => ?_⟩
   have q2' : b ≤ i := by omega
   by_cases e : b = j
   ·subst e
    rcases hst with h | h
    ·omega
    by_cases e2 : a = b - 1
    ·subst e2; exact h
    have := g3 a (b - 1) (by omega) (by omega) (by omega); omega
   exact g3 a b q1 q2' e
  rw [r19_rising_l13.eq_2]
  by_cases hj : 0 < j
  ·have hp : aG t ((j : Int) - 1) = some (t[j - 1]'(by omega)) := by
    have := aU (xs := t) (i := j - 1) (by omega)
    rw [show (((j - 1 : Nat)) : Int) = (j : Int) - 1 by omega] at this
    exact this
   have hq : aG t (j : Int) = some (t[j]'(by omega)) := aU (by omega)
   rw [cv (by omega), ct, r64 (by omega) (by omega), hp, bs, hq, bs, bs]
   by_cases hc : t[j]'(by omega) < t[j - 1]'(by omega)
   ·rw [cv hc, ct, bs, r64 (a := (j : Int) - 1) (by omega) (by omega), bs, bs, r64 (a := (j : Int) - 1) (by omega) (by omega)]
    have hs2 : aG (List.set t (j : Int).toNat (t[j - 1]'(by omega))) ((j : Int) - 1) = some ((List.set t (j : Int).toNat (t[j - 1]'(by omega)))[j - 1]'(by simp; omega)) := by
     have := aU (xs := List.set t (j : Int).toNat (t[j - 1]'(by omega))) (i := j - 1) (by simp; omega)
     rw [show (((j - 1 : Nat)) : Int) = (j : Int) - 1 by omega] at this
     exact this
    rw [hs2, bs, r64 (a := (j : Int) - 1) (by omega) (by omega), Int.toNat_natCast, show ((j : Int) - 1).toNat = j - 1 by omega, show (j : Int) - 1 = ((j - 1 : Nat) : Int) by omega]
    obtain ⟨q, rfl⟩ : ∃ q, j = q + 1 := ⟨j - 1, by omega⟩
    simp only [Nat.add_sub_cancel] at *
    refine go2 ((t.set (q + 1) (t[q]'(by omega))).set q (t[q + 1]'(by omega)), q) (by show q < q + 1; omega) ⟨(xU (by omega)).trans g1, by show q ≤ i; omega, fun a b q1 q2 q3 => ?_⟩
    have q3' : b ≠ q := q3
    have hqa := qN t q (by omega)
    have hqb := qN t (q + 1) (by omega)
    show ((t.set (q + 1) (t[q]'(by omega))).set q (t[q + 1]'(by omega))).getD a 0 ≤ ((t.set (q + 1) (t[q]'(by omega))).set q (t[q + 1]'(by omega))).getD b 0
    rw [tt _ q _ _ (by simp; omega), tt _ q _ _ (by simp; omega), tt t (q + 1) _ _ (by omega), tt t (q + 1) _ _ (by omega), if_neg q3']
    by_cases b1 : b = q + 1
    ·rw [if_pos b1]
     by_cases a1 : a = q
     ·rw [if_pos a1]; omega
     rw [if_neg a1, if_neg (by omega), ← hqa]
     exact g3 a q (by omega) (by omega) (by omega)
    rw [if_neg b1]
    by_cases a1 : a = q
    ·rw [if_pos a1, ← hqb]; exact g3 (q + 1) b (by omega) q2 b1
    rw [if_neg a1]
    by_cases a2 : a = q + 1
    ·rw [if_pos a2, ← hqa]; exact g3 q b (by omega) q2 b1
    rw [if_neg a2]; exact g3 a b q1 q2 b1
   rw [cp (by omega), cf]
   refine stop (.inr ?_)
   rw [qN t (j - 1) (by omega), qN t j (by omega)]; omega
  rw [cp (by omega), cf, bs, cf]
  exact stop (.inl (by omega))
 rintro f s ⟨h1, h2⟩
 show Sat (r19_rising_l7 N (f + 1) s _) _
 rw [r19_rising_l7.eq_2, h1.length_eq, cp (by omega), cf]
 unfold rx
 exact aE (fin s h1 h2)
def ga (c : DCell) : List Int := pick (fun i v => gu c.Kind i && bj v) 0 c.More
theorem ng (N : Nat) (hN : 2000 < N) (c : DCell) (hS : c.Slots.length ≤ 1000) (hc : c.More.length ≤ 1000) : fC N c = some (ga c) := by
 unfold fC ga
 rw [qo N hN false c hS hc, bs]
 have e1 : (fun (_ : Nat) (v : DValue) => (true == false) && bj v) = fun _ _ => false := by funext i v; rfl
 have e2 : (fun (i : Nat) (v : DValue) => (gP c.Kind i == false) && bj v) = fun i v => gu c.Kind i && bj v := by funext i v; rw [uC]; cases gu c.Kind i <;> rfl
 rw [e1, e2, uc, List.nil_append]
theorem kV (c : DCell) : (ga c).length ≤ c.More.length := sY _ 0 c.More
theorem Ah {c : DCell} {x : Int} (h : x ∈ ga c) : ∃ v ∈ c.Slots ++ c.More, v.N = x := by
 obtain ⟨v, h1, h2⟩ := sW h
 exact ⟨v, List.mem_append_right _ h1, h2⟩
def dl (m : DMemory) (l : List Int) : Bool := l.all (aT m)
def jw (N : Nat) (m : DMemory) (c : DCell) : Bool := (cQ N c).getD false && (dl m (bn c) && dl m (ga c))
def zk (N : Nat) (m : DMemory) (roots : List DValue) : Bool := m.Young.all (jw N m) && (m.Old.all (jw N m) && dl m (bJ roots))
theorem ym (N : Nat) (m : DMemory) (l : List Int) (hl : l.length < N) (hl2 : l.length ≤ 5000) (h64 : ∀ x ∈ l, in64 x) : bi N l (fun x => dG N x m) = some (!dl m l) := by
 have key : ∀ k i : Nat, l.length < k + i → i ≤ l.length → Sat (slices_IndexFunc_l3 N (fun x => dG N x m) l k (i : Int)) fun r => decide (0 ≤ r) = !(l.drop i).all (aT m) := by
  intro k
  induction k with
  | zero => intro i h1 h2; omega
  | succ k ih =>
   intro i h1 h2
   rw [slices_IndexFunc_l3.eq_2]
   by_cases hi : i < l.length
   ·have h3 := ih (i + 1) (by omega) hi
    rw [show (((i + 1 : Nat)) : Int) = (i : Int) + 1 by omega] at h3
    rw [cv (by omega), ct, aU hi, bs, List.drop_eq_getElem_cons hi, List.all_cons]
    unfold dG
    rw [jR N m _ (h64 _ (List.getElem_mem _)), bs, bs, r64 (by omega) (by omega)]
    cases aT m l[i]
    ·exact aE (by rw [decide_eq_true (by omega)]; rfl)
    exact h3
   rw [cp (by omega), cf, List.drop_eq_nil_of_le (by omega)]
   exact aE rfl
 obtain ⟨r, h1, h2⟩ := key N 0 (by omega) (by omega)
 have h1' : slices_IndexFunc_l3 N (fun x => dG N x m) l N 0 = some r := h1
 unfold bi eI
 rw [h1', bs, h2]
 unfold dl
 simp
theorem qw {m : DMemory} {roots : List DValue} (hs : Small m roots) (hw : W64 m) {c : DCell} (hc : c ∈ m.Young ++ m.Old) : ((bn c).length ≤ 1200 ∧ ∀ x ∈ bn c, in64 x) ∧ (ga c).length ≤ 1200 ∧ ∀ x ∈ ga c, in64 x := by
 have h1 := hs.cells c hc
 have h2 := il c
 have h3 := kV c
 refine ⟨⟨by omega, fun x hx => ?_⟩, by omega, fun x hx => ?_⟩
 ·obtain ⟨v, h4, rfl⟩ := wW hx
  exact hw c hc v h4
 obtain ⟨v, h4, rfl⟩ := Ah hx
 exact hw c hc v h4
theorem BI (N : Nat) (hN : 5000 < N) {m : DMemory} {roots : List DValue} (hs : Small m roots) (hw : W64 m) (hr : ∀ v ∈ roots, in64 v.N) : kG N m roots = some (zk N m roots) := by
 have h1 := hs.young; have h2 := hs.old; have h3 := hs.roots
 -- one row
 have row : ∀ (kb : Int → Option Bool) (p : Int) (l : List DCell), in64 (p + 1) → l.length ≤ 600 → (∀ c ∈ l, c ∈ m.Young ++ m.Old) → reach_Right_l26 N kb m p l N 0 = bif l.all (jw N m) then kb (p + 1) else some false := by
  intro kb p l hp hl hl2
  refine lX _ l _ _ _ (fun k i h => ?_) (fun k => ?_) N (by omega)
  ·have hm := hl2 l[i] (List.getElem_mem _)
   have hc := hs.cells _ hm
   obtain ⟨⟨a1, a2⟩, a3, a4⟩ := qw hs hw hm
   obtain ⟨b, hb, -⟩ := js N (by omega) l[i] (by omega) (by omega)
   rw [reach_Right_l26.eq_2, cv (by omega), ct, aU h, bs, mm N (by omega) _ (by omega) (by omega), hb, bs, jl N (by omega) _ (by omega) (by omega), ng N (by omega) _ (by omega) (by omega)]
   simp only [bs]
   rw [ym N m _ (by omega) (by omega) a2, ym N m _ (by omega) (by omega) a4, bs, bs, r64 (by omega) (by omega)]
   unfold jw
   rw [hb]
   cases b <;> cases dl m (bn l[i]) <;> cases dl m (ga l[i]) <;> rfl
  rw [reach_Right_l26.eq_2, cp (by omega), cf]
  unfold lx
  exact if_pos hp
 have rows : ie N m = some (m.Young.all (jw N m) && m.Old.all (jw N m)) := by
  obtain ⟨k, rfl⟩ : ∃ k, N = k + 3 := ⟨N - 3, by omega⟩
  unfold ie
  rw [reach_Right_l20.eq_2, show ((([m.Young, m.Old] : List (List DCell)).length : Int)) = 2 from rfl, cv (by omega), ct, show aG ([m.Young, m.Old] : List (List DCell)) 0 = some m.Young from rfl, bs, row _ 0 m.Young (by unfold in64; omega) h1 fun c hc => List.mem_append_left _ hc]
  rw [reach_Right_l20.eq_2, show ((([m.Young, m.Old] : List (List DCell)).length : Int)) = 2 from rfl, cv (by omega), ct, show aG ([m.Young, m.Old] : List (List DCell)) (0 + 1) = some m.Old from rfl, bs, row _ (0 + 1) m.Old (by unfold in64; omega) h2 fun c hc => List.mem_append_right _ hc]
  rw [reach_Right_l20.eq_2, show ((([m.Young, m.Old] : List (List DCell)).length : Int)) = 2 from rfl, cp (by omega), cf]
  unfold ly
  cases m.Young.all (jw (k + 3) m) <;> cases m.Old.all (jw (k + 3) m) <;> rfl
 have hroots : reach_Right_l8 N roots m N 0 = bif roots.all (fun v => !bj v || aT m v.N) then ie N m else some false := by
  refine lX _ roots _ _ _ (fun k i h => ?_) (fun k => ?_) N (by omega)
  ·have ha : cG N roots[i] = some (roots[i].N, bj roots[i]) := by
    unfold cG; rw [i5, bs]
   rw [reach_Right_l8.eq_2, cv (by omega), ct, aU h, bs, ha, bs]
   simp only
   rw [jR N m _ (hr _ (List.getElem_mem _)), bs, r64 (by omega) (by omega)]
   cases bj roots[i] <;> cases aT m roots[i].N <;> rfl
  rw [reach_Right_l8.eq_2, cp (by omega), cf]
 unfold kG zk
 rw [r64 (by omega) (by omega), cp (by omega), cf, hroots, rows]
 have e : dl m (bJ roots) = roots.all (fun v => !bj v || aT m v.N) := by
  unfold dl bJ; rw [all_map, su]
 rw [e]
 cases m.Young.all (jw N m) <;> cases m.Old.all (jw N m) <;> cases roots.all (fun v => !bj v || aT m v.N) <;> rfl
structure Bnd (B : Nat) (m : DMemory) (roots : List DValue) : Prop where
 young : m.Young.length ≤ B
 old : m.Old.length ≤ B
 roots : roots.length ≤ B
 cells : ∀ c ∈ m.Young ++ m.Old, c.Slots.length ≤ B ∧ c.More.length ≤ B
def wt : List DCell → Nat
 | [] => 0
 | c :: l => 1 + c.Slots.length + c.More.length + wt l
theorem vR : ∀ a b : List DCell, wt (a ++ b) = wt a + wt b
 | [], b => by simp [wt]
 | c :: a, b => by rw [List.cons_append, wt, wt, vR a b]; omega
theorem vQ : ∀ l : List DCell, l.length ≤ wt l
 | [] => Nat.le_refl _
 | c :: l => by have := vQ l; rw [wt, List.length_cons]; omega
theorem Bv : ∀ {l : List DCell} {c : DCell}, c ∈ l → 1 + c.Slots.length + c.More.length ≤ wt l
 | d :: l, c, h => by
  rw [wt]
  rcases List.mem_cons.1 h with rfl | h
  ·omega
  have := Bv h; omega
theorem zd {l : List DCell} {i : Nat} (h : i < l.length) : wt (l.take (i + 1)) = wt (l.take i) + (1 + l[i].Slots.length + l[i].More.length) := by
 rw [aP h, vR]; simp [wt]
def W6 (m : DMemory) (roots : List DValue) : Prop := roots.length + wt m.Young + wt m.Old ≤ 600
structure Wtd (m : DMemory) (roots : List DValue) : Prop where
 le : roots.length + wt m.Young + wt m.Old ≤ 2400
 cnt : m.Young.length + m.Old.length ≤ 600
theorem W6.wtd {m : DMemory} {roots : List DValue} (h : W6 m roots) : Wtd m roots := by
 have h1 : roots.length + wt m.Young + wt m.Old ≤ 600 := h
 have h2 := vQ m.Young
 have h3 := vQ m.Old
 exact ⟨by omega, by omega⟩
theorem W6.small {m : DMemory} {roots : List DValue} (h : W6 m roots) : Small m roots := by
 have h1 : roots.length + wt m.Young + wt m.Old ≤ 600 := h
 have h2 := vQ m.Young
 have h3 := vQ m.Old
 refine ⟨by omega, by omega, by omega, fun c hc => ?_⟩
 rcases List.mem_append.1 hc with hc | hc
 ·have := Bv hc; omega
 have := Bv hc; omega
theorem Gu (N : Nat) (hN : 5000 < N) {m : DMemory} {roots : List DValue} (hb : Bnd 140737488355328 m roots) : Sat (qF N m roots) fun b => b = true → W6 m roots := by
 have hy := hb.young; have ho := hb.old; have hr := hb.roots
 have old : ∀ p : Nat, p ≤ 300000000000000 → (p ≤ 600 → p = roots.length + wt m.Young) → Sat (oQ N m (p : Int)) fun b => b = true → W6 m roots := by
  intro p hp hY
  unfold oQ
  refine i4 (fun f (s : Nat × Nat) => r19_Few_l26 N m f (s.1 : Int) (s.2 : Int)) (fun s => 700 - s.1) (fun s => s.1 ≤ 300000000000000 ∧ s.2 ≤ m.Old.length ∧ (s.1 ≤ 600 → s.1 = roots.length + wt m.Young + wt (m.Old.take s.2))) _ ?_ N (p, 0) (by show 700 - p < N; omega) ⟨hp, Nat.zero_le _, fun h => by have := hY h; simp [wt]; omega⟩
  rintro f ⟨p, i⟩ ⟨h1, h2, h3⟩ go
  show Sat (r19_Few_l26 N m (f + 1) (p : Int) (i : Int)) _
  simp only at h1 h2 h3
  rw [r19_Few_l26.eq_2]
  have fin : (i = m.Old.length ∨ 600 < p) → Sat (pO N (p : Int)) fun b => b = true → W6 m roots := fun hh => aE fun hb2 => by
   have hp6 : (p : Int) ≤ 600 := of_decide_eq_true hb2
   have h4 := h3 (by omega)
   have hi : i = m.Old.length := by omega
   subst hi
   rw [List.take_length] at h4
   exact (show roots.length + wt m.Young + wt m.Old ≤ 600 by omega)
  by_cases hi : i < m.Old.length
  ·rw [cv (by omega), ct, bs]
   refine df (fun h6 => ?_) fun h6 => fin (.inr (by omega))
   have hc := hb.cells m.Old[i] (by simp)
   rw [r64 (a := (p : Int) + 1) (by omega) (by omega), aU hi, bs, r64 (a := (p : Int) + 1 + (m.Old[i].Slots.length : Int)) (by omega) (by omega), bs, r64 (a := (p : Int) + 1 + (m.Old[i].Slots.length : Int) + (m.Old[i].More.length : Int)) (by omega) (by omega), r64 (a := (i : Int) + 1) (by omega) (by omega)]
   have hg := go (p + 1 + m.Old[i].Slots.length + m.Old[i].More.length, i + 1) (by show 700 - (p + 1 + m.Old[i].Slots.length + m.Old[i].More.length) < 700 - p; omega) ⟨by show p + 1 + m.Old[i].Slots.length + m.Old[i].More.length ≤ 300000000000000; omega, hi, fun h7 => by
    simp only at h7 ⊢
    have := h3 (by omega)
    rw [zd hi]; omega⟩
   simpa using hg
  rw [cp (by omega), cf, bs, cf]
  exact fin (.inl (by omega))
 unfold qF
 refine i4 (fun f (s : Nat × Nat) => r19_Few_l7 N m f (s.1 : Int) (s.2 : Int)) (fun s => 700 - s.1) (fun s => s.1 ≤ 300000000000000 ∧ s.2 ≤ m.Young.length ∧ (s.1 ≤ 600 → s.1 = roots.length + wt (m.Young.take s.2))) _ ?_ N (roots.length, 0) (by show 700 - roots.length < N; omega) ⟨by show roots.length ≤ 300000000000000; omega, Nat.zero_le _, fun h => by simp [wt]⟩
 rintro f ⟨p, i⟩ ⟨h1, h2, h3⟩ go
 show Sat (r19_Few_l7 N m (f + 1) (p : Int) (i : Int)) _
 simp only at h1 h2 h3
 rw [r19_Few_l7.eq_2]
 by_cases hi : i < m.Young.length
 ·rw [cv (by omega), ct, bs]
  refine df (fun h6 => ?_) fun h6 => old p h1 fun h7 => absurd h7 (by omega)
  have hc := hb.cells m.Young[i] (by simp)
  rw [r64 (a := (p : Int) + 1) (by omega) (by omega), aU hi, bs, r64 (a := (p : Int) + 1 + (m.Young[i].Slots.length : Int)) (by omega) (by omega), bs, r64 (a := (p : Int) + 1 + (m.Young[i].Slots.length : Int) + (m.Young[i].More.length : Int)) (by omega) (by omega), r64 (a := (i : Int) + 1) (by omega) (by omega)]
  have hg := go (p + 1 + m.Young[i].Slots.length + m.Young[i].More.length, i + 1) (by show 700 - (p + 1 + m.Young[i].Slots.length + m.Young[i].More.length) < 700 - p; omega) ⟨by show p + 1 + m.Young[i].Slots.length + m.Young[i].More.length ≤ 300000000000000; omega, hi, fun h7 => by
   simp only at h7 ⊢
   have := h3 (by omega)
   rw [zd hi]; omega⟩
  simpa using hg
 rw [cp (by omega), cf, bs, cf]
 have hie : i = m.Young.length := by omega
 subst hie
 refine old p h1 fun h7 => ?_
 have := h3 h7
 rw [List.take_length] at this
 exact this
def cq (p : Int → Bool) : List DValue → List DValue
 | k :: v :: r => (bif p k.N then [k, v] else []) ++ cq p r
 | _ => []
theorem xo (p : Int → Bool) : ∀ l : List DValue, (cq p l).length ≤ l.length
 | [] => by simp [cq]
 | [_] => by simp [cq]
 | k :: v :: r => by
  have := xo p r
  unfold cq
  cases p k.N <;> simp <;> omega
theorem si {p : Int → Bool} {x : DValue} : ∀ {l : List DValue}, x ∈ cq p l → x ∈ l
 | [], h => by simp [cq] at h
 | [_], h => by simp [cq] at h
 | k :: v :: r, h => by
  unfold cq at h
  rcases List.mem_append.1 h with h | h
  ·cases hp : p k.N with
   | false => rw [hp] at h; cases h
   | true => rw [hp] at h; simp at h; rcases h with h | h <;> simp [h]
  have := si h; simp [this]
def bR (N : Nat) (l : List Int) (c : DCell) : DCell := bif gB N c then ⟨c.Kind, c.Shape, c.Flags, c.Age, c.Slots, cq (fun x => decide (x ∈ l)) c.More⟩ else c
theorem DY (N : Nat) (hN : 5000 < N) (l : List Int) (hl : l.length ≤ 5000) (y : DCell) (k v : DValue) (s : List DValue) (hs : s.length ≤ 5000) : cK (fun x st => fv N (fun x => eU N x l) y x st) (k, v) (none, s) = some (true, (none, s ++ (bif decide (k.N ∈ l) then [k, v] else []))) := by
 unfold cK fv eU
 simp only [bs, kS N hN l hl]
 cases decide (k.N ∈ l)
 ·simp only [cf, List.append_nil]; rfl
 simp only [ct]
 rw [rF (by simp; omega)]
 rfl
theorem yr (N : Nat) (hN : 5000 < N) (l : List Int) (hl : l.length ≤ 5000) (y c : DCell) (hc : c.More.length ≤ 1000) (he : c.More.length % 2 = 0) : ∀ (m i : Nat) (s : List DValue), c.More.length < m + i → i ≤ c.More.length → i % 2 = 0 → s.length ≤ i → weak_entries_c1_l4 N (cK (fun x st => fv N (fun x => eU N x l) y x st)) c m (i : Int) (none, s) = some (none, s ++ cq (fun x => decide (x ∈ l)) (c.More.drop i))
 | 0, i, s, h, h2, _, _ => by omega
 | m + 1, i, s, h, h2, h3, h4 => by
  rw [weak_entries_c1_l4.eq_2, r64 (a := (i : Int) + 1) (by omega) (by omega)]
  by_cases hi : i < c.More.length
  ·have hi1 : i + 1 < c.More.length := by omega
   have hl1 : aG c.More ((i : Int) + 1) = some c.More[i + 1] := by
    have := aU hi1
    simpa using this
   rw [cv (by omega), ct, aU hi, bs, r64 (a := (i : Int) + 1) (by omega) (by omega), hl1, bs, DY N hN l hl y _ _ s (by omega), bs]
   simp only [nt, cf]
   rw [r64 (by omega) (by omega)]
   have hlen : (s ++ (bif decide (c.More[i].N ∈ l) then [c.More[i], c.More[i + 1]] else [])).length ≤ i + 2 := by
    cases decide (c.More[i].N ∈ l) <;> simp <;> omega
   have := yr N hN l hl y c hc he m (i + 2) _ (by omega) (by omega) (by omega) hlen
   simp only [Int.natCast_add, Int.cast_ofNat_Int] at this
   rw [this, List.drop_eq_getElem_cons hi, List.drop_eq_getElem_cons hi1, List.append_assoc]; rfl
  rw [cp (by omega), cf, List.drop_eq_nil_of_le (by omega)]
  simp [cq]
theorem sf (N : Nat) (hN : 5000 < N) (l : List Int) (hl : l.length ≤ 5000) (c : DCell) (hS : c.Slots.length ≤ 600) (hc : c.More.length ≤ 600) : ir N c l = some (bif gB N c then bR N l c else vO) := by
 obtain ⟨-, h1, h2⟩ := zB N (by omega) c (by omega) (by omega)
 unfold ir py eW bR
 rw [h1, bs]
 cases hw : gB N c
 ·rfl
 have e : gY N c = some () := rfl
 have := yr N hN l hl c c (by omega) (h2 hw) N 0 [] (by omega) (by omega) rfl (by simp)
 simp only [nt, cf, ct, e, bs, yR N c ⟨hS, hc⟩]
 have h3 : weak_entries_c1_l4 N (cK (fun x st => fv N (fun x => eU N x l) c x st)) c N 0 (none, []) = some (none, [] ++ cq (fun x => decide (x ∈ l)) (c.More.drop 0)) := this
 rw [h3, bs]
 rfl
theorem tH (N : Nat) (hN : 5000 < N) (l : List Int) (hl : l.length ≤ 5000) (c : DCell) (hS : c.Slots.length ≤ 600) (hc : c.More.length ≤ 600) : gx N c l = some (bR N l c) := by
 have h0 := sf N hN l hl c hS hc
 unfold gx
 rw [h0, mm N (by omega) c (by omega) (by omega)]
 unfold bR gB
 obtain ⟨b, hb, -⟩ := js N (by omega) c (by omega) (by omega)
 rw [hb]
 cases decide (c.Kind = 8) <;> cases b <;> rfl
theorem xm (N : Nat) (l : List Int) (c : DCell) : (bR N l c).Slots.length = c.Slots.length ∧ (bR N l c).More.length ≤ c.More.length := by
 unfold bR
 cases gB N c
 ·exact ⟨rfl, Nat.le_refl _⟩
 exact ⟨rfl, xo _ _⟩
theorem sg {N : Nat} {l : List Int} {c : DCell} {v : DValue} (h : v ∈ (bR N l c).Slots ++ (bR N l c).More) : v ∈ c.Slots ++ c.More := by
 unfold bR at h
 cases hw : gB N c
 ·rw [hw] at h; exact h
 rw [hw] at h
 rcases List.mem_append.1 h with h | h
 ·exact List.mem_append_left _ h
 exact List.mem_append_right _ (si h)
def lf (N : Nat) (c : DCell) : Bool := decide (c.Kind = 10) && (cQ N c).getD false
def bx (N : Nat) (c : DCell) : DCell := bif lf N c then ⟨c.Kind, c.Shape, c.Flags, c.Age, c.Slots, c.More.take 1⟩ else c
theorem El (N : Nat) (c : DCell) : (bx N c).Slots.length = c.Slots.length ∧ (bx N c).More.length ≤ c.More.length := by
 unfold bx
 cases lf N c
 ·exact ⟨rfl, Nat.le_refl _⟩
 exact ⟨rfl, by show (c.More.take 1).length ≤ _; rw [List.length_take]; omega⟩
theorem Ek {N : Nat} {c : DCell} {v : DValue} (h : v ∈ (bx N c).Slots ++ (bx N c).More) : v ∈ c.Slots ++ c.More := by
 unfold bx at h
 cases hw : lf N c
 ·rw [hw] at h; exact h
 rw [hw] at h
 rcases List.mem_append.1 h with h | h
 ·exact List.mem_append_left _ h
 exact List.mem_append_right _ (List.mem_of_mem_take h)
theorem Bl (N : Nat) (hN : 5000 < N) (l : List DCell) (hl : l.length ≤ 1000) (hc : ∀ c ∈ l, c.Slots.length ≤ 600 ∧ c.More.length ≤ 600) : gy N l = some (l.map (bx N)) := by
 apply Sat.eq
 unfold gy iJ
 rw [rF (by simp; omega), bs, List.nil_append]
 refine ck (fun k i (s : List DCell) => reach_bare_c1_l6 N l k s (i : Int)) l.length (fun i s => s = (l.take i).map (bx N) ++ l.drop i) _ ?_ ?_ N 0 l (by omega) (by omega) (by simp)
 ·rintro k i s hi h1 go
  show Sat (reach_bare_c1_l6 N l (k + 1) s (i : Int)) _
  have hci := hc l[i] (List.getElem_mem _)
  have hsl : s.length = l.length := by rw [h1]; simp; omega
  have hg : aG s (i : Int) = some l[i] := by
   have h2 : s[i]'(by omega) = l[i] := by
    subst h1
    rw [List.getElem_append_right (by simp; omega)]
    simp [Nat.min_eq_left (Nat.le_of_lt hi)]
   rw [aU (by omega), h2]
  have hset : ∀ d, s.set i d = (l.take i).map (bx N) ++ d :: l.drop (i + 1) := fun d => by
   have hlen : ((l.take i).map (bx N)).length = i := by rw [List.length_map, List.length_take]; omega
   rw [h1, List.set_append_right _ _ (by omega), hlen, Nat.sub_self, List.drop_eq_getElem_cons hi]; rfl
  have hnext : ∀ d, d = bx N l[i] → (l.take i).map (bx N) ++ d :: l.drop (i + 1) = (l.take (i + 1)).map (bx N) ++ l.drop (i + 1) := fun d e => by
   rw [aP hi, e, List.map_append, List.append_assoc]; rfl
  rw [reach_bare_c1_l6.eq_2, cv (by omega), ct, hg, bs, mm N (by omega) _ (by omega) (by omega)]
  obtain ⟨b, hb, hb2⟩ := js N (by omega) l[i] (by omega) (by omega)
  rw [hb]
  unfold gS
  rw [r64 (a := (i : Int) + 1) (by omega) (by omega)]
  have he : ((bif decide (l[i].Kind = 10) then ((some b).bind fun y17 => some y17) else some false) : Option Bool) = some (lf N l[i]) := by
   unfold lf; rw [hb]; cases decide (l[i].Kind = 10) <;> cases b <;> rfl
  rw [he, bs]
  cases hw : lf N l[i]
  ·rw [cf]
   refine go s ?_
   rw [← hnext l[i] (by unfold bx; rw [hw]; rfl), h1, List.drop_eq_getElem_cons hi]
  rw [ct]
  have hb1 : b = true ∧ l[i].Kind = 10 := by
   unfold lf at hw; rw [hb] at hw
   cases b <;> simp at hw
   exact ⟨rfl, hw⟩
  have h1m := ((hb2 hb1.1).2 hb1.2).1
  rw [qB ⟨by omega, by omega, by show (1 : Int).toNat ≤ _; exact h1m⟩, bs, r64 (a := (i : Int) + 1) (by omega) (by omega), Int.toNat_natCast, hset]
  refine go _ (hnext _ ?_)
  unfold bx; rw [hw]; rfl
 rintro k s h1
 show Sat (reach_bare_c1_l6 N l (k + 1) s _) _
 rw [reach_bare_c1_l6.eq_2, cp (by omega), cf]
 unfold kh
 exact aE (by rw [h1]; simp)
def cy (N : Nat) (m : DMemory) : DMemory := ⟨m.Young.map (bx N), m.Old.map (bx N)⟩
theorem Small.cell {m : DMemory} {roots : List DValue} (hs : Small m roots) {c : DCell} (h : c ∈ m.Young ++ m.Old) : c.Slots.length ≤ 600 ∧ c.More.length ≤ 600 := hs.cells c h
theorem yY (N : Nat) (hN : 5000 < N) {m : DMemory} {roots : List DValue} (hs : Small m roots) : gh N m = some (cy N m) := by
 have h1 := hs.young
 have h2 := hs.old
 unfold gh
 rw [Bl N hN m.Young (by omega) fun c hc => hs.cell (List.mem_append_left _ hc), bs, Bl N hN m.Old (by omega) fun c hc => hs.cell (List.mem_append_right _ hc), bs]; rfl
theorem uX (N : Nat) (m : DMemory) (a : Int) : dI (cy N m) a = (dI m a).map (bx N) := by
 unfold dI cy
 split
 ·rfl
 split <;> simp
theorem jv (N : Nat) (m : DMemory) : aT (cy N m) = aT m := by
 funext a; unfold aT; rw [uX]; cases dI m a <;> rfl
theorem oC (N : Nat) (m : DMemory) (a : Int) (h : aT m a = true) : bI (cy N m) a = bx N (bI m a) := by
 unfold bI; rw [uX]
 unfold aT at h
 cases hc : dI m a with
 | none => rw [hc] at h; cases h
 | some c => rfl
theorem Small.bare {m : DMemory} {roots : List DValue} (hs : Small m roots) (N : Nat) : Small (cy N m) roots := by
 refine ⟨by unfold cy; simpa using hs.young, by unfold cy; simpa using hs.old, hs.roots, fun c hc => ?_⟩
 unfold cy at hc
 rw [← List.map_append] at hc
 obtain ⟨d, hd, rfl⟩ := List.mem_map.1 hc
 have h1 := hs.cell hd
 have h2 := El N d
 omega
theorem W64.bare {m : DMemory} (hw : W64 m) (N : Nat) : W64 (cy N m) := fun c hc v hv => by
 unfold cy at hc
 rw [← List.map_append] at hc
 obtain ⟨d, hd, rfl⟩ := List.mem_map.1 hc
 exact hw d hd v (Ek hv)
theorem vz {m : DMemory} {roots : List DValue} (hs : Small m roots) {x : Int} (h : aT m x = true) : in64 x := by
 have h2 := mG h
 have h3 := qM hs h
 unfold in64; omega
theorem DI {f : Nat → DValue → Bool} {x : Int} {k : Nat} : ∀ {i : Nat} {l : List DValue}, x ∈ pick f i (l.take k) → x ∈ pick f i l := by
 induction k with
 | zero => intro i l h; simp [pick] at h
 | succ k ih =>
  intro i l h
  cases l with
  | nil => exact h
  | cons v l =>
   rw [List.take_succ_cons, ew] at h
   rw [ew]
   rcases List.mem_append.1 h with h | h
   ·exact List.mem_append_left _ h
   exact List.mem_append_right _ (ih h)
theorem Cd {N : Nat} {c : DCell} {x : Int} (h : x ∈ bn (bx N c)) : x ∈ bn c := by
 unfold bx at h
 cases hw : lf N c
 ·rw [hw] at h; exact h
 rw [hw] at h
 unfold bn at h ⊢
 rcases List.mem_append.1 h with h | h
 ·exact List.mem_append_left _ h
 exact List.mem_append_right _ (DI h)
theorem wE {p q : Int → Bool} (hpq : ∀ x, p x = true → q x = true) {x : Int} : ∀ {l : List DValue}, x ∈ opens p l → x ∈ opens q l
 | [], h => by simp [opens] at h
 | [_], h => by simp [opens] at h
 | k :: v :: r, h => by
  rw [fA] at h ⊢
  rcases List.mem_append.1 h with h | h
  ·refine List.mem_append_left _ ?_
   cases hk : p k.N with
   | false => rw [hk, Bool.and_false] at h; cases h
   | true => rw [hk] at h; rw [hpq _ hk]; exact h
  exact List.mem_append_right _ (wE hpq h)
theorem BR {N : Nat} {c : DCell} {row l : List Int} (hr : ∀ x ∈ row, x ∈ l) {x : Int} (h : x ∈ bE N (bx N c) row) : x ∈ bE N c l := by
 unfold bx at h
 cases hw : lf N c
 ·rw [hw] at h
  unfold bE at h ⊢
  cases hm : gB N c
  ·rw [cf, hm] at h; cases h
  rw [cf, hm] at h
  exact wE (fun x hx => by simp at hx ⊢; exact hr x hx) h
 exfalso
 rw [hw] at h
 have h10 : c.Kind = 10 := by unfold lf at hw; simp at hw; exact hw.1
 unfold bE gB at h
 rw [ct, eO (by show c.Kind ≠ 8; omega)] at h
 cases h
theorem Eo (N : Nat) (v : DValue) : cG N v = some (v.N, bj v) := by
 unfold cG; rw [i5, bs]
def jq : DValue := ⟨0, 0, ⟨#[]⟩⟩
def d8 (l : List Int) : List DValue → List DValue
 | t :: h :: k :: s :: r => (bif decide (t.N ∈ l) then [t, h, (bif decide (k.Kind = 7) && !decide (k.N ∈ l) then jq else k), s] else []) ++ d8 l r
 | _ => []
def me (l : List Int) (cb : DValue) : List DValue → List DValue
 | t :: h :: _ :: s :: r => (bif decide (t.N ∈ l) then [] else [cb, h, s]) ++ me l cb r
 | _ => []
theorem oW (l : List Int) (t h k s : DValue) (r : List DValue) : d8 l (t :: h :: k :: s :: r) = (bif decide (t.N ∈ l) then [t, h, (bif decide (k.Kind = 7) && !decide (k.N ∈ l) then jq else k), s] else []) ++ d8 l r := Eq.trans rfl rfl
theorem Bz (l : List Int) (cb t h k s : DValue) (r : List DValue) : me l cb (t :: h :: k :: s :: r) = (bif decide (t.N ∈ l) then [] else [cb, h, s]) ++ me l cb r := Eq.trans rfl rfl
theorem li (p : Int → Bool) (k v : DValue) (r : List DValue) : cq p (k :: v :: r) = (bif p k.N then [k, v] else []) ++ cq p r := Eq.trans rfl rfl
theorem E9 (l : List Int) (cb : DValue) : ∀ xs : List DValue, (d8 l xs).length + (me l cb xs).length ≤ xs.length
 | [] => by simp [d8, me]
 | [_] => by simp [d8, me]
 | [_, _] => by simp [d8, me]
 | [_, _, _] => by simp [d8, me]
 | t :: h :: k :: s :: r => by
  have := E9 l cb r
  unfold d8 me
  cases decide (t.N ∈ l) <;> simp <;> omega
def ql (l : List Int) (c : DCell) : DCell × List DValue := (⟨c.Kind, c.Shape, c.Flags, c.Age, c.Slots, c.More.take 1 ++ d8 l (c.More.drop 1)⟩, me l (c.More.headD jq) (c.More.drop 1))
theorem IE {l : List DValue} (h : 4 ≤ l.length) : ∃ t a k s r, l = t :: a :: k :: s :: r := by
 match l, h with
 | t :: a :: k :: s :: r, _ => exact ⟨t, a, k, s, r, rfl⟩
theorem AP (N : Nat) (hN : 5000 < N) (l : List Int) (p : List (Int × Bool)) (hp : ∀ x, (lk p x).getD false = decide (x ∈ l)) (c y : DCell) (cb : DValue) (hcb : c.More[0]? = some cb) (hc : c.More.length ≤ 1000) : ∀ (m i : Nat) (o t : List DValue), c.More.length < m + i → i ≤ c.More.length → (c.More.length - i) % 4 = 0 → o.length ≤ i → t.length ≤ i → finreg_entries_c1_l4 N (cK (fun x st => dH N c p y x st)) c m (i : Int) (none, (o, t)) = some (none, (o ++ d8 l (c.More.drop i), t ++ me l cb (c.More.drop i)))
 | 0, i, o, t, h, h2, _, _, _ => by omega
 | m + 1, i, o, t, h, h2, h3, h4, h5 => by
  rw [finreg_entries_c1_l4.eq_2, r64 (a := (i : Int) + 4) (by omega) (by omega)]
  by_cases hi : i + 4 ≤ c.More.length
  ·obtain ⟨v1, v2, v3, v4, r, hd⟩ := IE (l := c.More.drop i) (by rw [List.length_drop]; omega)
   have hd4 : c.More.drop (i + 4) = r := by rw [← List.drop_drop, hd]; rfl
   have hx : (c.More.drop (i : Int).toNat).take (((i : Int) + 4).toNat - (i : Int).toNat) = [v1, v2, v3, v4] := by
    rw [Int.toNat_natCast, show ((i : Int) + 4).toNat - i = 4 by omega, hd]; rfl
   have h0 : aG c.More 0 = some cb := by
    have := i6 c.More 0
    rw [hcb] at this; exact this
   have e0 : aG [v1, v2, v3, v4] 0 = some v1 := rfl
   have e1 : aG [v1, v2, v3, v4] 1 = some v2 := rfl
   have e2 : aG [v1, v2, v3, v4] 2 = some v3 := rfl
   have e3 : aG [v1, v2, v3, v4] 3 = some v4 := rfl
   rw [E7 (by omega), ct, r64 (by omega) (by omega), r64 (by omega) (by omega), jt ⟨by omega, by omega, by omega, by omega⟩, hx]
   have hb : cK (fun x st => dH N c p y x st) ((i : Int), [v1, v2, v3, v4]) (none, (o, t)) = some (true, (none, (o ++ (bif decide (v1.N ∈ l) then [v1, v2, (bif decide (v3.Kind = 7) && !decide (v3.N ∈ l) then jq else v3), v4] else []), t ++ (bif decide (v1.N ∈ l) then [] else [cb, v2, v4])))) := by
    unfold cK dH
    simp only [e0, e1, e2, e3, bs, hp, h0]
    unfold iD
    simp only [e0, e1, e2, e3, bs]
    cases decide (v1.N ∈ l)
    ·simp only [nf, ct, cf, List.append_nil]
     rw [rF (by simp; omega)]; rfl
    simp only [nt, ct, cf, List.append_nil]
    rw [rF (by simp; omega), rF (by simp; omega)]
    cases decide (v3.Kind = 7) <;> cases decide (v3.N ∈ l) <;> rfl
   rw [hb, bs]
   simp only [nt, cf]
   rw [r64 (by omega) (by omega)]
   have := AP N hN l p hp c y cb hcb hc m (i + 4) (o ++ (bif decide (v1.N ∈ l) then [v1, v2, (bif decide (v3.Kind = 7) && !decide (v3.N ∈ l) then jq else v3), v4] else [])) (t ++ (bif decide (v1.N ∈ l) then [] else [cb, v2, v4])) (by omega) hi (by omega) (by cases decide (v1.N ∈ l) <;> simp <;> omega) (by cases decide (v1.N ∈ l) <;> simp <;> omega)
   rw [show (((i + 4 : Nat)) : Int) = (i : Int) + 4 by omega] at this
   rw [this, hd4, hd, List.append_assoc, List.append_assoc]; rfl
  rw [E8 (by omega), cf, List.drop_eq_nil_of_le (by omega)]
  simp [d8, me]
theorem Gp (N : Nat) (hN : 2000 < N) (c : DCell) (hS : c.Slots.length ≤ 1000) (hc : c.More.length ≤ 1000) : nz N c = some (lf N c) ∧ (lf N c = true → 1 ≤ c.More.length ∧ (c.More.length - 1) % 4 = 0) := by
 obtain ⟨b, hb, hb2⟩ := js N hN c hS hc
 unfold nz lf
 rw [mm N hN c hS hc, hb]
 refine ⟨by cases decide (c.Kind = 10) <;> cases b <;> rfl, fun h => ?_⟩
 rw [Bool.and_eq_true, decide_eq_true_eq] at h
 exact (hb2 h.2).2 h.1
theorem rM (N : Nat) (hN : 5000 < N) (l : List Int) (hl : l.length ≤ 5000) (c : DCell) (hS : c.Slots.length ≤ 600) (hc : c.More.length ≤ 600) : im N c l = some (bif lf N c then ql l c else (vO, [])) := by
 obtain ⟨h1, h2⟩ := Gp N (by omega) c (by omega) (by omega)
 unfold im
 rw [h1, bs]
 cases hw : lf N c
 ·rfl
 obtain ⟨g1, g2⟩ := h2 hw
 simp only [nt, cf, ct]
 have hcb : c.More[0]? = some (c.More.headD jq) := by
  cases hm : c.More with
  | nil => rw [hm] at g1; simp at g1
  | cons a r => rfl
 apply Sat.eq
 refine ck (fun k i (s : List (Int × Bool)) => finreg_Clean_l15 N l c k (i : Int) s) l.length (fun i s => ∀ x, (lk s x).getD false = decide (x ∈ l.take i)) _ ?_ ?_ N 0 [] (by omega) (by omega) (fun x => by simp; rfl)
 ·intro k i s hi h3 go
  show Sat (finreg_Clean_l15 N l c (k + 1) (i : Int) s) _
  rw [finreg_Clean_l15.eq_2, cv (by omega), ct, aU hi, bs, r64 (by omega) (by omega)]
  refine go _ fun x => ?_
  rw [yp, aP hi]
  by_cases e : l[i] = x
  ·rw [if_pos e, decide_eq_true (by simp [e])]; rfl
  rw [if_neg e, h3 x]
  by_cases hm : x ∈ l.take i
  ·rw [decide_eq_true hm, decide_eq_true (List.mem_append_left _ hm)]
  rw [decide_eq_false hm, decide_eq_false (by simp only [List.mem_append, List.mem_singleton]; exact fun h => h.elim hm fun h => e h.symm)]
 intro k s h3
 show Sat (finreg_Clean_l15 N l c (k + 1) _ s) _
 rw [List.take_length] at h3
 rw [finreg_Clean_l15.eq_2, cp (by omega), cf]
 unfold kB nS eJ kA iO
 have h0 : aG c.More 0 = some (c.More.headD jq) := by
  have := i6 c.More 0
  rw [hcb] at this; exact this
 rw [rF (by simp; omega), bs, h0, bs, bs, bs]
 have := AP N hN l s h3 c ⟨c.Kind, c.Shape, c.Flags, c.Age, [] ++ c.Slots, [c.More.headD jq]⟩ _ hcb (by omega) N 1 [c.More.headD jq] [] (by omega) g1 g2 (by simp) (by simp)
 have this' : finreg_entries_c1_l4 N (cK (fun x st => dH N c s ⟨c.Kind, c.Shape, c.Flags, c.Age, [] ++ c.Slots, [c.More.headD jq]⟩ x st)) c N 1 (none, ([c.More.headD jq], [])) = _ := this
 rw [this', bs]
 refine aE ?_
 have ht : c.More.take 1 = [c.More.headD jq] := by
  cases hm : c.More with
  | nil => rw [hm] at g1; simp at g1
  | cons a r => rfl
 unfold ql
 rw [ht]; rfl
def pi (a : Int) : Bool := decide (a.tmod 2 = 0)
def xK (a : Int) : Bool := decide (a.tmod 2 = 1)
def jF (live : List Int) : List Int := live.filter pi ++ live.filter xK
theorem qO {p : Int → Bool} : ∀ {l : List Int} {i : Nat} (hi : i < l.length), p l[i] = true → (l.filter p)[((l.take i).filter p).length]? = some l[i]
 | x :: l, 0, hi, h => by
  simp only [List.getElem_cons_zero] at h
  simp [h]
 | x :: l, i + 1, hi, h => by
  simp only [List.getElem_cons_succ] at h
  have ih := qO (l := l) (i := i) (by simpa using hi) h
  rw [List.take_succ_cons]
  cases hx : p x with
  | true => simp only [List.filter_cons, hx, if_true, List.length_cons, List.getElem?_cons_succ, List.getElem_cons_succ]; exact ih
  | false => simp only [List.filter_cons, hx, Bool.false_eq_true, if_false, List.getElem_cons_succ]; exact ih
theorem AQ {p : Int → Bool} {l : List Int} {i : Nat} (hi : i < l.length) : ((l.take (i + 1)).filter p).length = ((l.take i).filter p).length + (bif p l[i] then 1 else 0) := by
 rw [aP hi, List.filter_append, List.length_append]
 cases h : p l[i] <;> simp [h]
theorem wA (N : Nat) {σ : Type} (φ : Int × Int → σ → Option (Option Exit × σ)) (live : List Int) (hl : live.length ≤ 2000) (hN : 5000 < N) (kb : Int → Int → Option Exit × σ → Option (Option Exit × σ)) (b : Int) (p : Int → Bool) (hp : ∀ a, p a = decide (a.tmod 2 = b)) (p6 : Int) (h6 : 0 ≤ p6 ∧ p6 ≤ 2) (n0 : Nat) (hn0 : n0 ≤ 2000)
  (Inv : Nat → σ → Prop) (R : Option Exit × σ → Prop)
  (hstep : ∀ i (hi : i < live.length) s, p live[i] = true → Inv (n0 + ((live.take i).filter p).length) s → Sat (φ (((n0 + ((live.take i).filter p).length : Nat) : Int), live[i]) s) fun r => r.1 = none ∧ Inv (n0 + ((live.take i).filter p).length + 1) r.2)
  (hk : ∀ s, Inv (n0 + (live.filter p).length) s → Sat (kb ((n0 + (live.filter p).length : Nat) : Int) (p6 + 1) (none, s)) R) (s : σ) (hs : Inv n0 s) : Sat (major_order_c1_l13 N kb (cK φ) b p6 live N (n0 : Int) 0 (none, s)) R := by
 have hfl : ∀ i, ((live.take i).filter p).length ≤ 2000 := fun i => Nat.le_trans (List.length_filter_le _ _) (by rw [List.length_take]; omega)
 refine ck (fun k i (st : Nat × σ) => major_order_c1_l13 N kb (cK φ) b p6 live k (st.1 : Int) (i : Int) (none, st.2)) live.length (fun i st => st.1 = n0 + ((live.take i).filter p).length ∧ Inv st.1 st.2) _ ?_ ?_ N 0 (n0, s) (by omega) (by omega) ⟨by simp, hs⟩
 ·rintro k i ⟨n, st⟩ hi ⟨h1, h2⟩ go
  simp only at h1 h2
  have hb := hfl i
  show Sat (major_order_c1_l13 N kb (cK φ) b p6 live (k + 1) (n : Int) (i : Int) (none, st)) _
  have hnx := AQ (p := p) hi
  rw [major_order_c1_l13.eq_2, cv (by omega), ct, aU hi, bs, ← hp]
  unfold gl
  rw [r64 (a := (i : Int) + 1) (by omega) (by omega)]
  cases hq : p live[i]
  ·simp only [nf, ct]
   rw [hq] at hnx
   have hg := go (n, st) ⟨by show n = _; rw [hnx]; exact h1, h2⟩
   first | rw [r64 (a := (i : Int) + 1) (by omega) (by omega)] | skip
   exact hg
  simp only [nt, cf]
  rw [hq] at hnx
  obtain ⟨⟨e, s'⟩, g1, g2, g3⟩ := hstep i hi st hq (by rw [← h1]; exact h2)
  simp only at g2 g3
  subst g2
  have hf : cK φ ((n : Int), live[i]) (none, st) = some (true, (none, s')) := by
   unfold cK
   simp only
   rw [h1, g1]; rfl
  rw [hf, bs]
  simp only [nt, cf]
  rw [r64 (a := (n : Int) + 1) (by omega) (by omega)]
  have hg := go (n + 1, s') ⟨by show n + 1 = _; rw [hnx]; show n + 1 = _ + (_ + 1); omega, by show Inv (n + 1) s'; rw [h1]; exact g3⟩
  first | rw [r64 (a := (i : Int) + 1) (by omega) (by omega)] | skip
  exact hg
 rintro k ⟨n, st⟩ ⟨h1, h2⟩
 simp only [List.take_length] at h1 h2
 show Sat (major_order_c1_l13 N kb (cK φ) b p6 live (k + 1) (n : Int) _ (none, st)) _
 rw [major_order_c1_l13.eq_2, cp (by omega), cf]
 unfold jM
 rw [r64 (by omega) (by omega), h1]
 exact hk st (by rw [← h1]; exact h2)
theorem wB (N : Nat) {σ : Type} (φ : Int × Int → σ → Option (Option Exit × σ)) (live : List Int) (hl : live.length ≤ 2000) (hN : 5000 < N)
  (Inv : Nat → σ → Prop) (hstep : ∀ n a s, (jF live)[n]? = some a → Inv n s → Sat (φ ((n : Int), a) s) fun r => r.1 = none ∧ Inv (n + 1) r.2) (s : σ) (hs : Inv 0 s) : Sat (ex N live (cK φ) (none, s)) fun r => r.1 = none ∧ Inv (jF live).length r.2 := by
 obtain ⟨k, rfl⟩ : ∃ k, N = k + 3 := ⟨N - 3, by omega⟩
 have hev : (live.filter pi).length ≤ 2000 := Nat.le_trans (List.length_filter_le _ _) hl
 unfold ex
 rw [major_order_c1_l4.eq_2, show ((([0, 1] : List Int).length : Int)) = 2 from rfl, cv (by omega), ct, show aG ([0, 1] : List Int) 0 = some 0 from rfl, bs]
 refine wA (k + 3) φ live hl (by omega) _ 0 pi (fun _ => rfl) 0 (by omega) 0 (by omega) Inv _ (fun i hi st hp hi2 => ?_) (fun st hst => ?_) s hs
 ·refine hstep _ _ _ ?_ hi2
  unfold jF
  rw [List.getElem?_append_left]
  ·rw [Nat.zero_add]; exact qO hi hp
  have := (List.getElem?_eq_some_iff.1 (qO hi hp)).1; omega
 rw [major_order_c1_l4.eq_2, show ((([0, 1] : List Int).length : Int)) = 2 from rfl, cv (by omega), ct, show aG ([0, 1] : List Int) (0 + 1) = some 1 from rfl, bs]
 refine wA (k + 3) φ live hl (by omega) _ 1 xK (fun _ => rfl) (0 + 1) (by omega) (0 + (live.filter pi).length) (by omega) Inv _ (fun i hi st hp hi2 => ?_) (fun st hst => ?_) st hst
 ·refine hstep _ _ _ ?_ hi2
  unfold jF
  rw [List.getElem?_append_right (by omega), show 0 + (live.filter pi).length + ((live.take i).filter xK).length - (live.filter pi).length = ((live.take i).filter xK).length by omega]
  exact qO hi hp
 rw [major_order_c1_l4.eq_2, show ((([0, 1] : List Int).length : Int)) = 2 from rfl, cp (by omega), cf]
 refine aE ⟨rfl, ?_⟩
 unfold jF
 rw [List.length_append]
 have e : 0 + (live.filter pi).length + (live.filter xK).length = (live.filter pi).length + (live.filter xK).length := by omega
 rw [← e]; exact hst
def pu (ha hb : Int → Bool) (A B : List Int) (v w : DValue) : Bool :=
 bif !bj v || !bj w then decide (v = w)
 else decide (v.Kind = w.Kind) && (v.S.toList == w.S.toList) && (bif !decide (v.N ∈ A) || !decide (w.N ∈ B) then !decide (v.N ∈ A) && !decide (w.N ∈ B) && (ha v.N == hb w.N) else decide (A.idxOf v.N = B.idxOf w.N))
def iI (ha hb : Int → Bool) (A B : List Int) (x y : List DValue) : Bool := decide (x.length = y.length) && (x.zip y).all fun p => pu ha hb A B p.1 p.2
def mN (ha hb : Int → Bool) (A B : List Int) (c d : DCell) : Bool := decide (c.Kind = d.Kind) && decide (c.Shape = d.Shape) && decide (c.Flags = d.Flags) && iI ha hb A B c.Slots d.Slots && iI ha hb A B c.More d.More
def gr (N : Nat) (a : DMemory) (x : List DValue) (A : List Int) (b : DMemory) (y : List DValue) (B : List Int) : Bool :=
 decide (A.length = B.length) && iI (aT a) (aT b) A B x y && (A.zip B).all fun p => mN (aT a) (aT b) A B (bR N A (bI a p.1)) (bR N B (bI b p.2))
theorem lh {α : Type} [DecidableEq α] (x y : α) : decide (x = y) = decide (y = x) := by
 by_cases h : x = y
 ·rw [decide_eq_true h, decide_eq_true h.symm]
 rw [decide_eq_false h, decide_eq_false fun e => h e.symm]
theorem yX {α : Type} [BEq α] [LawfulBEq α] (x y : α) : (x == y) = (y == x) := by
 by_cases h : x = y
 ·subst h; rfl
 rw [beq_eq_false_iff_ne.2 h, beq_eq_false_iff_ne.2 fun e => h e.symm]
theorem Ec (ha hb : Int → Bool) (A B : List Int) (v w : DValue) : pu ha hb A B v w = pu hb ha B A w v := by
 unfold pu
 rw [lh v w, lh v.Kind w.Kind, yX v.S.toList w.S.toList, lh (A.idxOf v.N), yX (ha v.N)]
 cases bj v <;> cases bj w <;> cases decide (v.N ∈ A) <;> cases decide (w.N ∈ B) <;> rfl
theorem se (ha hb : Int → Bool) (A B : List Int) (x y : List DValue) : iI ha hb A B x y = iI hb ha B A y x := by
 unfold iI
 rw [lh x.length, oG _ (fun p => pu hb ha B A p.1 p.2) (fun v w => Ec ha hb A B v w)]
theorem Co (ha hb : Int → Bool) (A B : List Int) (c d : DCell) : mN ha hb A B c d = mN hb ha B A d c := by
 unfold mN
 rw [lh c.Kind, lh c.Shape, lh c.Flags, se ha hb A B c.Slots, se ha hb A B c.More]
theorem Bm (N : Nat) (a : DMemory) (x : List DValue) (A : List Int) (b : DMemory) (y : List DValue) (B : List Int) : gr N a x A b y B = gr N b y B a x A := by
 unfold gr
 rw [lh A.length, se, oG _ (fun p => mN (aT b) (aT a) B A (bR N B (bI b p.1)) (bR N A (bI a p.2))) (fun v w => Co _ _ A B _ _)]
def PosM (kv : List (Int × Int)) (l : List Int) : Prop := ∀ x, lk kv x = if x ∈ l then some (l.idxOf x : Int) else none
theorem Hz (kv : List (Int × Int)) (a z x : Int) (h : a ≠ x) : lk (rf kv a z) x = lk kv x := by
 unfold rf
 cases fp a kv 0 with
 | some _ => rfl
 | none => exact HA kv a z x h
theorem PosM.nil : PosM [] [] := fun x => rfl
theorem PosM.add {kv : List (Int × Int)} {l : List Int} {i : Nat} {L : List Int} (hi : i < L.length) (hl : l = L.take i) (h : PosM kv l) (hn : L.Nodup) : PosM (na (rf kv L[i] 0) L[i] (i : Int)) (L.take (i + 1)) := by
 intro x
 have hlen : l.length = i := by rw [hl, List.length_take]; omega
 have hni : L[i] ∉ l := by
  rw [hl]
  intro hm
  obtain ⟨j, hj, e⟩ := List.getElem_of_mem hm
  rw [List.length_take] at hj
  rw [List.getElem_take] at e
  exact List.pairwise_iff_getElem.1 (List.nodup_iff_pairwise_ne.1 hn) j i (by omega) hi (by omega) e
 rw [yp, aP hi, ← hl, List.idxOf_append]
 by_cases e : L[i] = x
 ·rw [if_pos e, ← e, if_pos (List.mem_append_right _ (by simp)), if_neg hni]
  simp [hlen]
 rw [if_neg e, Hz _ _ _ _ e, h x]
 by_cases hm : x ∈ l
 ·rw [if_pos hm, if_pos (List.mem_append_left _ hm), if_pos hm]
 rw [if_neg hm, if_neg (by simp [hm]; exact fun h => e h.symm)]
theorem By (N : Nat) (t : DTwins) (A B : List Int) (hA : PosM t.from_ A) (hB : PosM t.to_ B) (v w : DValue) (h1 : in64 v.N) (h2 : in64 w.N) : eh N t v w = some (pu (aT t.a_) (aT t.b_) A B v w) := by
 unfold eh pu
 simp only [Eo, bs, jR N _ _ h1, jR N _ _ h2, hA v.N, hB w.N]
 have eA : (if v.N ∈ A then some ((A.idxOf v.N : Nat) : Int) else none).isSome = decide (v.N ∈ A) := by
  by_cases h : v.N ∈ A <;> simp [h]
 have eB : (if w.N ∈ B then some ((B.idxOf w.N : Nat) : Int) else none).isSome = decide (w.N ∈ B) := by
  by_cases h : w.N ∈ B <;> simp [h]
 have eD : v.N ∈ A → w.N ∈ B → decide ((if v.N ∈ A then some ((A.idxOf v.N : Nat) : Int) else none).getD 0 = (if w.N ∈ B then some ((B.idxOf w.N : Nat) : Int) else none).getD 0) = decide (A.idxOf v.N = B.idxOf w.N) := fun g1 g2 => by
  rw [if_pos g1, if_pos g2]
  show decide (((A.idxOf v.N : Nat) : Int) = ((B.idxOf w.N : Nat) : Int)) = _
  by_cases h : A.idxOf v.N = B.idxOf w.N
  ·rw [decide_eq_true h, decide_eq_true (by omega)]
  rw [decide_eq_false h, decide_eq_false (by omega)]
 rw [eA, eB]
 by_cases g1 : v.N ∈ A <;> by_cases g2 : w.N ∈ B
 ·rw [eD g1 g2, decide_eq_true g1, decide_eq_true g2]
  cases bj v <;> cases bj w <;> cases decide (v.Kind = w.Kind) <;> cases (v.S.toList == w.S.toList) <;> rfl
 ·rw [decide_eq_true g1, decide_eq_false g2]
  cases bj v <;> cases bj w <;> cases decide (v.Kind = w.Kind) <;> cases (v.S.toList == w.S.toList) <;> rfl
 ·rw [decide_eq_false g1, decide_eq_true g2]
  cases bj v <;> cases bj w <;> cases decide (v.Kind = w.Kind) <;> cases (v.S.toList == w.S.toList) <;> rfl
 rw [decide_eq_false g1, decide_eq_false g2]
 cases bj v <;> cases bj w <;> cases decide (v.Kind = w.Kind) <;> cases (v.S.toList == w.S.toList) <;> rfl
theorem pz (N : Nat) (t : DTwins) (A B : List Int) (hA : PosM t.from_ A) (hB : PosM t.to_ B) (x y : List DValue) (hx : x.length < N) (hx2 : x.length ≤ 5000) (h1 : ∀ v ∈ x, in64 v.N) (h2 : ∀ v ∈ y, in64 v.N) : dm N t x y = some (iI (aT t.a_) (aT t.b_) A B x y) := by
 unfold dm jh
 have := Ad (fun k i => slices_EqualFunc_l5 N (fun x => eh N t x.1 x.2) x y k i) x y (fun p => pu (aT t.a_) (aT t.b_) A B p.1 p.2) (fun k i h h' => ?_) (fun k => ?_) N hx
 ·rw [this, bs]; rfl
 ·rw [slices_EqualFunc_l5.eq_2, cv (by omega), ct, aU h, bs, aU h', bs]
  simp only
  rw [By N t A B hA hB _ _ (h1 _ (List.getElem_mem _)) (h2 _ (List.getElem_mem _)), bs, r64 (by omega) (by omega)]
  cases pu (aT t.a_) (aT t.b_) A B x[i] y[i] <;> rfl
 rw [slices_EqualFunc_l5.eq_2, cp (by omega), cf]; rfl
structure SideOk (m : DMemory) (x : List DValue) (A : List Int) : Prop where
 small : Small m x
 w64 : W64 m
 x64 : ∀ v ∈ x, in64 v.N
 len : A.length ≤ 1200
 nd : A.Nodup
 has : ∀ a ∈ A, aT m a = true
theorem SideOk.in64 {m : DMemory} {x : List DValue} {A : List Int} (h : SideOk m x A) {a : Int} (ha : a ∈ A) : Go.Proofs.YtmbaennilhdieaaGreat.in64 a := vz h.small (h.has a ha)
theorem SideOk.cell {m : DMemory} {x : List DValue} {A : List Int} (h : SideOk m x A) (N : Nat) (a : Int) : ((bI m a).Slots.length ≤ 600 ∧ (bI m a).More.length ≤ 600) ∧ ((bR N A (bI m a)).Slots.length ≤ 600 ∧ (bR N A (bI m a)).More.length ≤ 600) ∧ (∀ v ∈ (bR N A (bI m a)).Slots, Go.Proofs.YtmbaennilhdieaaGreat.in64 v.N) ∧ ∀ v ∈ (bR N A (bI m a)).More, Go.Proofs.YtmbaennilhdieaaGreat.in64 v.N := by
 have h1 := h.small.at_ a
 have h2 := xm N A (bI m a)
 exact ⟨h1, by omega, fun v hv => h.w64.at_ _ v (sg (List.mem_append_left _ hv)), fun v hv => h.w64.at_ _ v (sg (List.mem_append_right _ hv))⟩
theorem CB (N : Nat) (hN : 5000 < N) {a b A B : DMemory} {x y : List DValue} {LA LB : List Int} (ba : gh N a = some A) (bb : gh N b = some B) (sA : SideOk A x LA) (sB : SideOk B y LB) (oa : co N A x = some LA) (ob : co N B y = some LB) : fx N a x b y = some (gr N A x LA B y LB) := by
 apply Sat.eq
 have hA := sA.len; have hB := sB.len; have hx := sA.small.roots; have hy := sB.small.roots
 unfold fx
 rw [ba, bs, bb, bs, oa, bs, ob, bs]
 by_cases hl : ¬ LA.length = LB.length
 ·rw [decide_eq_false (by omega)]
  exact aE (by unfold gr; rw [decide_eq_false hl]; rfl)
 replace hl : LA.length = LB.length := by omega
 rw [decide_eq_true (by omega)]
 simp only [nt, cf]
 refine ck (fun k i (s : List (Int × Int) × List (Int × Int)) => reach_Alike_l33 N LA x y A B LB k (i : Int) s.1 s.2) LA.length (fun i s => PosM s.1 (LA.take i) ∧ PosM s.2 (LB.take i)) _ ?_ ?_ N 0 ([], []) (by omega) (by omega) ⟨PosM.nil, PosM.nil⟩
 ·rintro k i ⟨p, q⟩ hi ⟨h1, h2⟩ go
  simp only at h1 h2
  show Sat (reach_Alike_l33 N LA x y A B LB (k + 1) (i : Int) p q) _
  rw [reach_Alike_l33.eq_2, cv (by omega), ct, aU hi, bs, aU (by omega), bs, r64 (by omega) (by omega)]
  exact go (_, _) ⟨h1.add hi rfl sA.nd, h2.add (by omega) rfl sB.nd⟩
 rintro k ⟨p, q⟩ ⟨h1, h2⟩
 simp only at h1 h2
 rw [List.take_length] at h1
 rw [hl, List.take_length] at h2
 show Sat (reach_Alike_l33 N LA x y A B LB (k + 1) _ p q) _
 rw [reach_Alike_l33.eq_2, cp (by omega), cf]
 unfold lA
 rw [pz N _ LA LB h1 h2 x y (by omega) (by omega) sA.x64 sB.x64, bs]
 have hz : (LA.zip LB).length = LA.length := by rw [List.length_zip]; omega
 have hloop : reach_Alike_l46 N LA A B p q N 0 LA LB = some ((LA.zip LB).all fun p => mN (aT A) (aT B) LA LB (bR N LA (bI A p.1)) (bR N LB (bI B p.2))) := by
  refine qd (fun k i => reach_Alike_l46 N LA A B p q k i LA LB) (LA.zip LB) _ (fun k i h => ?_) (fun k => ?_) N (by omega)
  ·have hi : i < LA.length := by omega
   have hi' : i < LB.length := by omega
   obtain ⟨c1, c2, c3, c4⟩ := sA.cell N LA[i]
   obtain ⟨d1, d2, d3, d4⟩ := sB.cell N LB[i]
   have e1 : eb N A LA[i] = some (bI A LA[i]) := tN N sA.small _ (sA.in64 (List.getElem_mem _))
   have e2 : eb N B LB[i] = some (bI B LB[i]) := tN N sB.small _ (sB.in64 (List.getElem_mem _))
   rw [reach_Alike_l46.eq_2, cv (by omega), ct, aU hi, bs, e1, bs, tH N hN LA (by omega) _ c1.1 c1.2, bs, aU hi', bs, e2, bs, tH N hN LB (by omega) _ d1.1 d1.2, bs, List.getElem_zip]
   simp only
   generalize bR N LA (bI A LA[i]) = c at *
   generalize bR N LB (bI B LB[i]) = d at *
   rw [pz N _ LA LB h1 h2 c.Slots d.Slots (by omega) (by omega) c3 d3, pz N _ LA LB h1 h2 c.More d.More (by omega) (by omega) c4 d4, r64 (by omega) (by omega)]
   unfold mN
   simp only [bs]
   cases decide (c.Kind = d.Kind) <;> cases decide (c.Shape = d.Shape) <;> cases decide (c.Flags = d.Flags) <;> cases iI (aT A) (aT B) LA LB c.Slots d.Slots <;> cases iI (aT A) (aT B) LA LB c.More d.More <;> rfl
  show reach_Alike_l46 N LA A B p q (k + 1) _ LA LB = _
  rw [hz, reach_Alike_l46.eq_2, cp (by omega), cf]; rfl
 rw [hloop]
 refine Gb (fun h => aE ?_) fun h => aE ?_
 ·have h' : iI (aT A) (aT B) LA LB x y = false := h
  unfold gr; rw [h', Bool.and_false]; rfl
 have h' : iI (aT A) (aT B) LA LB x y = true := h
 unfold gr; rw [h', decide_eq_true hl]; rfl
theorem yd (N : Nat) (x : Int) (l : List Int) (hl : l.length < N) (hl2 : l.length ≤ 5000) : nq N l x = some (if x ∈ l then ((l.idxOf x : Nat) : Int) else -1) := by
 have key : ∀ k i : Nat, l.length < k + i → i ≤ l.length → r19_place_l3 N x l k (i : Int) = some (if x ∈ l.drop i then (((i + (l.drop i).idxOf x : Nat)) : Int) else -1) := by
  intro k
  induction k with
  | zero => intro i h1 h2; omega
  | succ k ih =>
   intro i h1 h2
   rw [r19_place_l3.eq_2]
   by_cases hi : i < l.length
   ·have h3 := ih (i + 1) (by omega) hi
    rw [show (((i + 1 : Nat)) : Int) = (i : Int) + 1 by omega] at h3
    rw [cv (by omega), ct, aU hi, bs, List.drop_eq_getElem_cons hi, r64 (by omega) (by omega), h3, List.idxOf_cons]
    by_cases e : l[i] = x
    ·rw [decide_eq_true e, ct, if_pos (by simp [e]), beq_iff_eq.2 e, cond_true, Nat.add_zero]
    rw [decide_eq_false e, cf]
    by_cases hm : x ∈ l.drop (i + 1)
    ·rw [if_pos hm, if_pos (List.mem_cons_of_mem _ hm), beq_eq_false_iff_ne.2 e, cond_false, show i + 1 + (l.drop (i + 1)).idxOf x = i + ((l.drop (i + 1)).idxOf x + 1) by omega]
    rw [if_neg hm, if_neg (fun h => (List.mem_cons.1 h).elim (fun h => e h.symm) hm)]
   rw [cp (by omega), cf, List.drop_eq_nil_of_le (by omega)]; rfl
 have := key N 0 (by omega) (by omega)
 unfold nq
 simpa using this
theorem yy {v w : DValue} (h : v.Kind = w.Kind) : bj v = bj w := by unfold bj; rw [h]
theorem Bx (N : Nat) (a b : DSide) (hA : a.Order.length < N) (hA2 : a.Order.length ≤ 5000) (hB : b.Order.length < N) (hB2 : b.Order.length ≤ 5000) (hs1 : ∀ x ∈ a.Order, aT a.M x = true) (hs2 : ∀ x ∈ b.Order, aT b.M x = true) (x y : List DValue) (hx : x.length < N) (hx2 : x.length ≤ 5000) (h1 : ∀ v ∈ x, in64 v.N) (h2 : ∀ v ∈ y, in64 v.N) : gj N a x b y = some (iI (aT a.M) (aT b.M) a.Order b.Order x y) := by
 unfold gj iI
 refine Ad (fun k i => r19_values_l13 N x y a b k i) x y (fun p => pu (aT a.M) (aT b.M) a.Order b.Order p.1 p.2) (fun k i h h' => ?_) (fun k => ?_) N hx
 ·rw [r19_values_l13.eq_2, cv (by omega), ct, aU h, aU h']
  simp only [bs]
  have g1 := h1 x[i] (List.getElem_mem _)
  have g2 := h2 y[i] (List.getElem_mem _)
  generalize x[i] = v at *
  generalize y[i] = w at *
  rw [i5 v]
  simp only [bs, vA N _ _ g1, vA N _ _ g2, yd N v.N a.Order hA hA2, yd N w.N b.Order hB hB2]
  rw [r64 (by omega) (by omega)]
  unfold pu
  cases q1 : bj v
  ·simp only [cf, nf, ct, bs, Bool.true_or]
   cases decide (v = w) <;> rfl
  cases q2 : bj w
  ·have hk : v.Kind ≠ w.Kind := fun e => by rw [yy e, q2] at q1; cases q1
   have hne : v ≠ w := fun e => hk (by rw [e])
   rw [decide_eq_false hk, decide_eq_false hne]
   rfl
  simp only [nt, cf, bs, ct, Bool.or_self]
  cases decide (v.Kind = w.Kind)
  ·rfl
  cases (v.S.toList == w.S.toList)
  ·rfl
  simp only [nt, cf, bs, Bool.true_and]
  by_cases m1 : v.N ∈ a.Order <;> by_cases m2 : w.N ∈ b.Order
  ·rw [hs1 _ m1, hs2 _ m2, if_pos m1, if_pos m2, decide_eq_true m1, decide_eq_true m2]
   have e : decide (((a.Order.idxOf v.N : Nat) : Int) = ((b.Order.idxOf w.N : Nat) : Int)) = decide (a.Order.idxOf v.N = b.Order.idxOf w.N) := by
    by_cases e : a.Order.idxOf v.N = b.Order.idxOf w.N
    ·rw [decide_eq_true e, decide_eq_true (by omega)]
    rw [decide_eq_false e, decide_eq_false (by omega)]
   rw [e]
   cases decide (a.Order.idxOf v.N = b.Order.idxOf w.N) <;> rfl
  ·rw [hs1 _ m1, if_pos m1, if_neg m2, decide_eq_true m1, decide_eq_false m2]
   rw [decide_eq_false (p := ((a.Order.idxOf v.N : Nat) : Int) = -1) (by omega)]
   cases aT b.M w.N <;> rfl
  ·rw [hs2 _ m2, if_neg m1, if_pos m2, decide_eq_false m1, decide_eq_true m2]
   rw [decide_eq_false (p := (-1 : Int) = ((b.Order.idxOf w.N : Nat) : Int)) (by omega)]
   cases aT a.M v.N <;> rfl
  rw [if_neg m1, if_neg m2, decide_eq_false m1, decide_eq_false m2]
  rw [decide_eq_true (p := (-1 : Int) = -1) rfl]
  cases aT a.M v.N <;> cases aT b.M w.N <;> rfl
 show r19_values_l13 N x y a b (k + 1) _ = _
 rw [r19_values_l13.eq_2, cp (by omega), cf]; rfl
def rK (p : Int → Bool) : List DValue → List Bool
 | k :: _ :: r => p k.N :: rK p r
 | _ => []
theorem yw (p : Int → Bool) : ∀ l : List DValue, l.length % 2 = 0 → 2 * (rK p l).length = l.length
 | [], _ => rfl
 | [_], h => by simp at h
 | k :: v :: r, h => by
  have := yw p r (by simp at h; omega)
  simp [rK]; omega
theorem we (N : Nat) (hN : 5000 < N) (l : List Int) (hl : l.length ≤ 5000) (c : DCell) (hc : c.More.length ≤ 1000) (he : c.More.length % 2 = 0) : ∀ (m i : Nat) (s : List Bool), c.More.length < m + i → i ≤ c.More.length → i % 2 = 0 → s.length ≤ i → r17_Clean_l12 N l c m s (i : Int) = nO N c (s ++ rK (fun x => decide (x ∈ l)) (c.More.drop i))
 | 0, i, s, h, h2, _, _ => by omega
 | m + 1, i, s, h, h2, h3, h4 => by
  rw [r17_Clean_l12.eq_2]
  by_cases hi : i < c.More.length
  ·have hi1 : i + 1 < c.More.length := by omega
   rw [cv (by omega), ct, aU hi, bs, Ig N hN l hl, bs, rF (by simp; omega), r64 (by omega) (by omega)]
   have := we N hN l hl c hc he m (i + 2) (s ++ [decide (c.More[i].N ∈ l)]) (by omega) (by omega) (by omega) (by simp; omega)
   rw [show (((i + 2 : Nat)) : Int) = (i : Int) + 2 by omega] at this
   rw [this, List.drop_eq_getElem_cons hi, List.drop_eq_getElem_cons hi1, List.append_assoc]; rfl
  rw [cp (by omega), cf, List.drop_eq_nil_of_le (by omega)]
  simp [rK]
theorem AK (p : Int → Bool) : ∀ (l : List DValue) (j : Nat) (h : 2 * j + 1 < l.length), (rK p l)[j]? = some (p (l[2 * j]'(by omega)).N)
 | k :: v :: r, 0, _ => rfl
 | k :: v :: r, j + 1, h => by
  have := AK p r j (by simp at h; omega)
  simp only [rK, List.getElem?_cons_succ]
  rw [this]
  simp only [show 2 * (j + 1) = 2 * j + 1 + 1 by omega, List.getElem_cons_succ]
 | [_], j, h => by simp at h
 | [], j, h => by simp at h
theorem rp (N : Nat) (p : Int → Bool) (c y : DCell) (hc : c.More.length ≤ 1000) (he : c.More.length % 2 = 0) (hN : 5000 < N) : ∀ (m j : Nat) (s : List DValue), c.More.length < 2 * (m + j) → 2 * j ≤ c.More.length → s.length ≤ 2 * j → r17_without_l12 N (rK p c.More) c y m (j : Int) s = pf N y (s ++ cq p (c.More.drop (2 * j)))
 | 0, j, s, h, h2, _ => by omega
 | m + 1, j, s, h, h2, h3 => by
  have hk := yw p c.More he
  rw [r17_without_l12.eq_2]
  by_cases hj : 2 * j < c.More.length
  ·have hj1 : 2 * j + 1 < c.More.length := by omega
   have hjk : j < (rK p c.More).length := by omega
   have e0 := AK p c.More j hj1
   rw [List.getElem?_eq_getElem hjk, Option.some.injEq] at e0
   rw [cv (by omega), ct, aU hjk, bs, e0]
   have g0 : aG c.More (2 * (j : Int)) = some c.More[2 * j] := by
    have := aU hj; rwa [show (((2 * j : Nat)) : Int) = 2 * (j : Int) by omega] at this
   have g1 : aG c.More (2 * (j : Int) + 1) = some c.More[2 * j + 1] := by
    have := aU hj1; rwa [show (((2 * j + 1 : Nat)) : Int) = 2 * (j : Int) + 1 by omega] at this
   unfold lB
   have step := fun s' (hs' : s'.length ≤ 2 * (j + 1)) => rp N p c y hc he hN m (j + 1) s' (by omega) (by omega) hs'
   rw [show (((j + 1 : Nat)) : Int) = (j : Int) + 1 by omega] at step
   have hd : cq p (c.More.drop (2 * j)) = (bif p c.More[2 * j].N then [c.More[2 * j], c.More[2 * j + 1]] else []) ++ cq p (c.More.drop (2 * (j + 1))) := by
    rw [List.drop_eq_getElem_cons hj, List.drop_eq_getElem_cons hj1]; rfl
   rw [hd]
   cases p c.More[2 * j].N
   ·rw [cf, cf, r64 (by omega) (by omega), step s (by omega)]; rfl
   rw [ct, ct, r64 (a := 2 * (j : Int)) (by omega) (by omega), g0, bs, r64 (a := 2 * (j : Int)) (by omega) (by omega), r64 (a := 2 * (j : Int) + 1) (by omega) (by omega), g1, bs, rF (by simp; omega), r64 (by omega) (by omega), step _ (by simp; omega), List.append_assoc]
  rw [cp (by omega), cf, List.drop_eq_nil_of_le (by omega)]
  simp [cq]
theorem Ed (N : Nat) (hN : 5000 < N) (l : List Int) (hl : l.length ≤ 5000) (c : DCell) (hS : c.Slots.length ≤ 600) (hc : c.More.length ≤ 600) : pR N c l = some (bif gB N c then bR N l c else vO) := by
 obtain ⟨h1, -, h2⟩ := zB N (by omega) c (by omega) (by omega)
 unfold pR bR
 rw [h1, bs]
 cases hw : gB N c
 ·rfl
 have e1 := we N hN l hl c (by omega) (h2 hw) N 0 [] (by omega) (by omega) rfl (by simp)
 have e2 := rp N (fun x => decide (x ∈ l)) c c (by omega) (h2 hw) hN N 0 [] (by omega) (by omega) (by simp)
 have e1' : r17_Clean_l12 N l c N [] 0 = _ := e1
 have e2' : r17_without_l12 N (rK (fun x => decide (x ∈ l)) c.More) c c N 0 [] = _ := e2
 have ec : oR N c = some c := by
  unfold oR
  rw [rF (by simp; omega), rF (by simp; omega)]; rfl
 simp only [nt, cf, ct]
 rw [e1']
 unfold nO rC
 rw [ec, bs]
 simp only [List.drop_zero, List.nil_append]
 rw [e2']
 rfl
theorem uU (N : Nat) (hN : 5000 < N) (l : List Int) (hl : l.length ≤ 5000) (c : DCell) (hS : c.Slots.length ≤ 600) (hc : c.More.length ≤ 600) : kH N c l = some (bR N l c) := by
 have h0 := Ed N hN l hl c hS hc
 unfold kH
 rw [h0]
 unfold bR gB
 obtain ⟨b, hb, -⟩ := js N (by omega) c (by omega) (by omega)
 rw [hb]
 cases decide (c.Kind = 8) <;> cases b <;> rfl
theorem xX (N : Nat) (hN : 5000 < N) (l : List DCell) (hl : l.length ≤ 1000) (hc : ∀ c ∈ l, c.Slots.length ≤ 600 ∧ c.More.length ≤ 600) : np N l = some (l.map (bx N)) := by
 apply Sat.eq
 unfold np
 refine ck (fun k i (s : List DCell) => r19_short_l5 N l k s (i : Int)) l.length (fun i s => s = (l.take i).map (bx N)) _ ?_ ?_ N 0 [] (by omega) (by omega) rfl
 ·rintro k i s hi h1 go
  show Sat (r19_short_l5 N l (k + 1) s (i : Int)) _
  have hci := hc l[i] (List.getElem_mem _)
  have hsl : s.length ≤ i := by rw [h1]; simp; omega
  have hnext : s ++ [bx N l[i]] = (l.take (i + 1)).map (bx N) := by rw [aP hi, List.map_append, ← h1]; rfl
  rw [r19_short_l5.eq_2, cv (by omega), ct, aU hi, bs]
  obtain ⟨b, hb, hb2⟩ := js N (by omega) l[i] (by omega) (by omega)
  rw [hb]
  have he : ((bif decide (l[i].Kind = 10) then ((some b).bind fun y17 => some y17) else some false) : Option Bool) = some (lf N l[i]) := by
   unfold lf; rw [hb]; cases decide (l[i].Kind = 10) <;> cases b <;> rfl
  rw [he, bs]
  unfold nM
  cases hw : lf N l[i]
  ·rw [cf, rF (by simp; omega), r64 (by omega) (by omega)]
   refine go _ ?_
   rw [← hnext]; unfold bx; rw [hw]; rfl
  have hb1 : b = true ∧ l[i].Kind = 10 := by
   unfold lf at hw; rw [hb] at hw
   cases b <;> simp at hw
   exact ⟨rfl, hw⟩
  have h1m := ((hb2 hb1.1).2 hb1.2).1
  rw [ct, qB ⟨by omega, by omega, by show (1 : Int).toNat ≤ _; exact h1m⟩, rF (by simp; omega), r64 (by omega) (by omega)]
  refine go _ ?_
  rw [← hnext]; unfold bx; rw [hw]; rfl
 rintro k s h1
 show Sat (r19_short_l5 N l (k + 1) s _) _
 rw [r19_short_l5.eq_2, cp (by omega), cf]
 exact aE (by rw [h1, List.take_length])
theorem Ap (N : Nat) (hN : 5000 < N) {m : DMemory} {roots : List DValue} (hs : Small m roots) {L : List Int} (ho : fX N (cy N m) roots = some L) : kj N m roots = some ⟨cy N m, L⟩ := by
 have h1 := hs.young
 have h2 := hs.old
 unfold kj
 rw [xX N hN m.Young (by omega) fun c hc => hs.cell (List.mem_append_left _ hc), bs, xX N hN m.Old (by omega) fun c hc => hs.cell (List.mem_append_right _ hc), bs]
 have ho' : fX N ⟨m.Young.map (bx N), m.Old.map (bx N)⟩ roots = some L := ho
 rw [ho', bs]; rfl
theorem Em (N : Nat) (hN : 5000 < N) {a b A B : DMemory} {x y : List DValue} {LA LB : List Int} (ba : kj N a x = some ⟨A, LA⟩) (bb : kj N b y = some ⟨B, LB⟩) (sA : SideOk A x LA) (sB : SideOk B y LB) : nr N a x b y = some (gr N A x LA B y LB) := by
 have hA := sA.len; have hB := sB.len; have hx := sA.small.roots; have hy := sB.small.roots
 unfold nr
 rw [ba, bs, bb, bs]
 simp only
 have hv := fun x y h1 h2 h3 h4 (_ : True) => Bx N ⟨A, LA⟩ ⟨B, LB⟩ (by show LA.length < N; omega) (by show LA.length ≤ 5000; omega) (by show LB.length < N; omega) (by show LB.length ≤ 5000; omega) sA.has sB.has x y h1 h2 h3 h4
 by_cases hl : ¬ LA.length = LB.length
 ·rw [decide_eq_false (by omega)]
  unfold gr; rw [decide_eq_false hl]; rfl
 replace hl : LA.length = LB.length := by omega
 have hz : (LA.zip LB).length = LA.length := by rw [List.length_zip]; omega
 have hloop : r19_Alike_l23 N N 0 A.Young A.Old LA B.Young B.Old LB = some ((LA.zip LB).all fun p => mN (aT A) (aT B) LA LB (bR N LA (bI A p.1)) (bR N LB (bI B p.2))) := by
  refine qd (fun k i => r19_Alike_l23 N k i A.Young A.Old LA B.Young B.Old LB) (LA.zip LB) _ (fun k i h => ?_) (fun k => ?_) N (by omega)
  ·have hi : i < LA.length := by omega
   have hi' : i < LB.length := by omega
   obtain ⟨c1, c2, c3, c4⟩ := sA.cell N LA[i]
   obtain ⟨d1, d2, d3, d4⟩ := sB.cell N LB[i]
   have e1 : la N ⟨A.Young, A.Old⟩ LA[i] = some (bI A LA[i]) := zZ N A _ (sA.in64 (List.getElem_mem _))
   have e2 : la N ⟨B.Young, B.Old⟩ LB[i] = some (bI B LB[i]) := zZ N B _ (sB.in64 (List.getElem_mem _))
   rw [r19_Alike_l23.eq_2, cv (by omega), ct, aU hi, bs, e1, bs, uU N hN LA (by omega) _ c1.1 c1.2, bs, aU hi', bs, e2, bs, uU N hN LB (by omega) _ d1.1 d1.2, bs, List.getElem_zip]
   simp only
   generalize bR N LA (bI A LA[i]) = c at *
   generalize bR N LB (bI B LB[i]) = d at *
   have v1 : gj N ⟨⟨A.Young, A.Old⟩, LA⟩ c.Slots ⟨⟨B.Young, B.Old⟩, LB⟩ d.Slots = _ := hv c.Slots d.Slots (by omega) (by omega) c3 d3 trivial
   have v2 : gj N ⟨⟨A.Young, A.Old⟩, LA⟩ c.More ⟨⟨B.Young, B.Old⟩, LB⟩ d.More = _ := hv c.More d.More (by omega) (by omega) c4 d4 trivial
   rw [v1, v2, r64 (by omega) (by omega)]
   unfold mN
   simp only [bs]
   cases decide (c.Kind = d.Kind) <;> cases decide (c.Shape = d.Shape) <;> cases decide (c.Flags = d.Flags) <;> cases iI (aT A) (aT B) LA LB c.Slots d.Slots <;> cases iI (aT A) (aT B) LA LB c.More d.More <;> rfl
  show r19_Alike_l23 N (k + 1) _ A.Young A.Old LA B.Young B.Old LB = _
  rw [hz, r19_Alike_l23.eq_2, cp (by omega), cf]; rfl
 have v0 := hv x y (by omega) (by omega) sA.x64 sB.x64 trivial
 rw [decide_eq_true (p := (LA.length : Int) = (LB.length : Int)) (by omega), v0, hloop]
 unfold gr
 rw [decide_eq_true hl]
 simp only [nt, cf, bs]
 cases iI (aT A) (aT B) LA LB x y <;> rfl
def di (c : DCell) : List Int := bn c ++ ga c
def kf (N : Nat) (c : DCell) : Bool := (cQ N c).getD false
theorem Ep (c : DCell) : (di c).length ≤ c.Slots.length + 2 * c.More.length := by
 have h1 := il c
 have h2 := kV c
 unfold di; rw [List.length_append]; omega
theorem tu : ∀ l : List DCell, (l.flatMap di).length ≤ 2 * wt l
 | [] => by simp [wt]
 | c :: l => by
  have h1 := tu l
  have h2 := Ep c
  rw [List.flatMap_cons, List.length_append, wt]; omega
theorem BX (N : Nat) (m : DMemory) (l : List Int) (hl : l.length < N) (hl2 : l.length ≤ 5000) (h64 : ∀ x ∈ l, in64 x) : bi N l (fun x => ey N x m) = some (!dl m l) := by
 have key : ∀ k i : Nat, l.length < k + i → i ≤ l.length → Sat (slices_IndexFunc_l3 N (fun x => ey N x m) l k (i : Int)) fun r => decide (0 ≤ r) = !(l.drop i).all (aT m) := by
  intro k
  induction k with
  | zero => intro i h1 h2; omega
  | succ k ih =>
   intro i h1 h2
   rw [slices_IndexFunc_l3.eq_2]
   by_cases hi : i < l.length
   ·have h3 := ih (i + 1) (by omega) hi
    rw [show (((i + 1 : Nat)) : Int) = (i : Int) + 1 by omega] at h3
    rw [cv (by omega), ct, aU hi, bs, List.drop_eq_getElem_cons hi, List.all_cons]
    unfold ey
    rw [jR N m _ (h64 _ (List.getElem_mem _)), bs, bs, r64 (by omega) (by omega)]
    cases aT m l[i]
    ·exact aE (by rw [decide_eq_true (by omega)]; rfl)
    exact h3
   rw [cp (by omega), cf, List.drop_eq_nil_of_le (by omega)]
   exact aE rfl
 obtain ⟨r, h1, h2⟩ := key N 0 (by omega) (by omega)
 have h1' : slices_IndexFunc_l3 N (fun x => ey N x m) l N 0 = some r := h1
 unfold bi eI
 rw [h1', bs, h2]
 unfold dl
 simp
def kC (N : Nat) (m : DMemory) (roots : List DValue) : Int :=
 bif (m.Young ++ m.Old).all (kf N) then bif dl m ((m.Young ++ m.Old).flatMap di ++ bJ roots) then 0 else 50 else 51
theorem Cq (N : Nat) (hN : 5000 < N) {m : DMemory} {roots : List DValue} (hs : Small m roots) (ht : Wtd m roots) (hw : W64 m) (hr : ∀ v ∈ roots, in64 v.N) : kN N m roots = some (kC N m roots) := by
 have hle := ht.le
 have h1 := hs.young; have h2 := hs.old; have h3 := hs.roots
 have a64 : ∀ (l : List DCell), (∀ c ∈ l, c ∈ m.Young ++ m.Old) → ∀ x ∈ l.flatMap di, in64 x := fun l hl x hx => by
  obtain ⟨c, hc, hx⟩ := List.mem_flatMap.1 hx
  obtain ⟨⟨-, g1⟩, -, g2⟩ := qw hs hw (hl c hc)
  exact (List.mem_append.1 hx).elim (g1 x) (g2 x)
 have r64' : ∀ x ∈ bJ roots, in64 x := fun x hx => by
  obtain ⟨v, h1, -, rfl⟩ := lZ.1 hx
  exact hr v h1
 have hal : ∀ k, (bJ (roots.take k)).length ≤ roots.length := fun k => by
  unfold bJ; rw [List.length_map]; exact Nat.le_trans (List.length_filter_le _ _) (by rw [List.length_take]; omega)
 -- the roots
 have hroots : ∀ q : List Int, q.length + roots.length ≤ 4800 → (∀ x ∈ q, in64 x) → jO N roots m q = some (bif dl m (q ++ bJ roots) then 0 else 50) := by
  intro q hq q64
  apply Sat.eq
  unfold jO
  refine ck (fun k i (s : List Int) => major_check_l40 N roots m k s (i : Int)) roots.length (fun i s => s = q ++ bJ (roots.take i)) _ ?_ ?_ N 0 q (by omega) (by omega) (by simp [bJ])
  ·rintro k i s hi h1 go
   show Sat (major_check_l40 N roots m (k + 1) s (i : Int)) _
   have hnext : q ++ bJ (roots.take (i + 1)) = s ++ bJ [roots[i]] := by rw [aP hi, qV, h1, List.append_assoc]
   have hsl : s.length ≤ 4800 := by have := hal i; rw [h1, List.length_append]; omega
   rw [major_check_l40.eq_2, cv (by omega), ct, aU hi, bs, i5, bs]
   unfold jf
   cases hb : bj roots[i]
   ·rw [cf, r64 (by omega) (by omega)]
    exact go s (by rw [hnext]; simp [bJ, hb])
   rw [ct, rF (by simp; omega), r64 (by omega) (by omega)]
   exact go _ (by rw [hnext]; simp [bJ, hb])
  rintro k s h1
  show Sat (major_check_l40 N roots m (k + 1) s _) _
  rw [List.take_length] at h1
  have hsl : s.length ≤ 4800 := by have := hal roots.length; rw [List.take_length] at this; rw [h1, List.length_append]; omega
  rw [major_check_l40.eq_2, cp (by omega), cf]
  unfold lC
  rw [BX N m s (by omega) (by omega) (fun x hx => by rw [h1] at hx; exact (List.mem_append.1 hx).elim (q64 x) (r64' x)), bs, ← h1]
  cases dl m s <;> exact aE rfl
 -- one row
 have row : ∀ (kb : List Int → Int → Option Int) (p : Int) (l : List DCell) (q : List Int), in64 (p + 1) → l.length ≤ 600 → wt l ≤ 2400 → (∀ c ∈ l, c ∈ m.Young ++ m.Old) → q.length ≤ 5000 → major_check_l17 N kb m p l roots N q 0 = bif l.all (kf N) then kb (q ++ l.flatMap di) (p + 1) else some 51 := by
  intro kb p l q hp hll hl hl2 hq
  have key : ∀ (k i : Nat), l.length < k + i → i ≤ l.length → major_check_l17 N kb m p l roots k (q ++ (l.take i).flatMap di) (i : Int) = bif (l.drop i).all (kf N) then kb (q ++ l.flatMap di) (p + 1) else some 51 := by
   intro k
   induction k with
   | zero => intro i h1 h2; omega
   | succ k ih =>
    intro i h4 h5
    have hfl := tu (l.take i)
    have hwt : wt (l.take i) ≤ wt l := by
     have := vR (l.take i) (l.drop i)
     rw [List.take_append_drop] at this; omega
    by_cases hi : i < l.length
    ·have hm := hl2 l[i] (List.getElem_mem _)
     have hc := hs.cells _ hm
     have hwi := zd hi
     have hwt2 : wt (l.take (i + 1)) ≤ wt l := by
      have := vR (l.take (i + 1)) (l.drop (i + 1))
      rw [List.take_append_drop] at this; omega
     obtain ⟨b, hb, -⟩ := js N (by omega) l[i] (by omega) (by omega)
     have hrc : kf N l[i] = b := by unfold kf; rw [hb]; rfl
     have e1 := il l[i]
     have e2 := kV l[i]
     have h6 := ih (i + 1) (by omega) hi
     rw [show (((i + 1 : Nat)) : Int) = (i : Int) + 1 by omega] at h6
     rw [major_check_l17.eq_2, cv (by omega), ct, aU hi, bs, mm N (by omega) _ (by omega) (by omega), hb, bs, jl N (by omega) _ (by omega) (by omega), bs, List.length_append, rF (by omega), ng N (by omega) _ (by omega) (by omega), bs, List.length_append, List.length_append, rF (by omega), r64 (by omega) (by omega)]
     have hap : q ++ (l.take i).flatMap di ++ bn l[i] ++ ga l[i] = q ++ (l.take (i + 1)).flatMap di := by
      rw [aP hi, List.flatMap_append]
      simp [di, List.append_assoc]
     rw [hap, h6, List.drop_eq_getElem_cons hi, List.all_cons, hrc]
     cases b <;> rfl
    have e : i = l.length := by omega
    subst e
    rw [major_check_l17.eq_2, cp (by omega), cf, List.drop_length, List.take_length]
    unfold lD
    rw [jt hp]; rfl
  have := key N 0 (by omega) (by omega)
  simpa using this
 have hwy : wt m.Young ≤ 2400 := by omega
 have hwo : wt m.Old ≤ 2400 := by omega
 have hfy := tu m.Young
 have hfo := tu m.Old
 obtain ⟨k, rfl⟩ : ∃ k, N = k + 3 := ⟨N - 3, by omega⟩
 unfold kN kC
 rw [major_check_l8.eq_2, show ((([m.Young, m.Old] : List (List DCell)).length : Int)) = 2 from rfl, cv (by omega), ct, show aG ([m.Young, m.Old] : List (List DCell)) 0 = some m.Young from rfl, bs, row _ 0 m.Young [] (by unfold in64; omega) h1 hwy (fun c hc => List.mem_append_left _ hc) (by simp)]
 rw [major_check_l8.eq_2, show ((([m.Young, m.Old] : List (List DCell)).length : Int)) = 2 from rfl, cv (by omega), ct, show aG ([m.Young, m.Old] : List (List DCell)) (0 + 1) = some m.Old from rfl, bs, List.nil_append, row _ (0 + 1) m.Old (m.Young.flatMap di) (by unfold in64; omega) h2 hwo (fun c hc => List.mem_append_right _ hc) (by omega)]
 rw [major_check_l8.eq_2, show ((([m.Young, m.Old] : List (List DCell)).length : Int)) = 2 from rfl, cp (by omega), cf, hroots _ (by rw [List.length_append]; omega) (fun x hx => by
  rw [← List.flatMap_append] at hx
  exact a64 _ (fun c hc => hc) x hx), List.all_append, List.flatMap_append]
 cases m.Young.all (kf (k + 3)) <;> cases m.Old.all (kf (k + 3)) <;> rfl
def lT (f : List Int) (a : Int) : Int := 2 * ((f.idxOf a : Nat) : Int) + 2
def cu (ρ : Int → Int) (f : List Int) (v : DValue) : DValue := bif bj v && decide (v.N ∈ f) then ⟨v.Kind, ρ v.N, v.S⟩ else v
def eM (ρ : Int → Int) (f : List Int) (c : DCell) : DCell := ⟨c.Kind, c.Shape, c.Flags, c.Age, c.Slots.map (cu ρ f), c.More.map (cu ρ f)⟩
def RhoM (kv : List (Int × Int)) (f : List Int) : Prop := ∀ x, lk kv x = if x ∈ f then some (lT f x) else none
theorem oT (N : Nat) (hN : 5000 < N) (l : List DValue) (hl : l.length ≤ 5000) (kv : List (Int × Int)) (f : List Int) (hk : RhoM kv f) : fB N l kv = some (l.map (cu (lT f) f)) := by
 apply Sat.eq
 unfold fB
 refine ck (fun k i (s : List DValue) => major_moved_l5 N l kv k s (i : Int)) l.length (fun i s => s = (l.take i).map (cu (lT f) f)) _ ?_ ?_ N 0 [] (by omega) (by omega) rfl
 ·rintro k i s hi h1 go
  show Sat (major_moved_l5 N l kv (k + 1) s (i : Int)) _
  have hsl : s.length ≤ i := by rw [h1, List.length_map, List.length_take]; omega
  have hnext : (l.take (i + 1)).map (cu (lT f) f) = s ++ [cu (lT f) f l[i]] := by rw [aP hi, List.map_append, h1]; rfl
  rw [major_moved_l5.eq_2, cv (by omega), ct, aU hi, bs, hk l[i].N, i5]
  unfold jd
  by_cases hm : l[i].N ∈ f
  ·rw [if_pos hm]
   simp only [bs, Option.isSome_some, ct]
   cases hb : bj l[i]
   ·rw [cf, rF (by simp; omega), r64 (by omega) (by omega)]
    refine go _ ?_
    rw [hnext]; unfold cu; rw [hb]; rfl
   rw [ct, rF (by simp; omega), r64 (by omega) (by omega)]
   refine go _ ?_
   rw [hnext]; unfold cu; rw [hb, decide_eq_true hm]; rfl
  rw [if_neg hm]
  simp only [bs, Option.isSome_none, cf]
  rw [rF (by simp; omega), r64 (by omega) (by omega)]
  refine go _ ?_
  rw [hnext]; unfold cu; rw [decide_eq_false hm, Bool.and_false]; rfl
 rintro k s h1
 show Sat (major_moved_l5 N l kv (k + 1) s _) _
 rw [major_moved_l5.eq_2, cp (by omega), cf]
 exact aE (by rw [h1, List.take_length])
def iP (N : Nat) (l : List Int) (c : DCell) : DCell := bif decide (c.Kind = 8) then bR N l c else bif decide (c.Kind = 10) then (ql l c).1 else c
def gv (l : List Int) (c : DCell) : List DValue := bif decide (c.Kind = 10) then (ql l c).2 else []
theorem nD (N : Nat) (l : List Int) (c : DCell) : (iP N l c).Slots.length = c.Slots.length ∧ (iP N l c).More.length + (gv l c).length ≤ c.More.length := by
 unfold iP gv
 by_cases h8 : c.Kind = 8
 ·rw [decide_eq_true h8, decide_eq_false (p := c.Kind = 10) (by omega)]
  have := xm N l c
  simp only [cond_true, cond_false, List.length_nil]; omega
 rw [decide_eq_false h8]
 by_cases h10 : c.Kind = 10
 ·rw [decide_eq_true h10]
  have := E9 l (c.More.headD jq) (c.More.drop 1)
  rw [List.length_drop] at this
  unfold ql
  refine ⟨rfl, ?_⟩
  show (c.More.take 1 ++ d8 l (c.More.drop 1)).length + (me l (c.More.headD jq) (c.More.drop 1)).length ≤ c.More.length
  rw [List.length_append, List.length_take]
  cases hm : c.More with
  | nil => rw [hm] at this; simp [d8, me]
  | cons a r => rw [hm] at this; simp only [List.length_cons] at this ⊢; omega
 rw [decide_eq_false h10]; simp
theorem RhoM.nil : RhoM [] [] := fun x => rfl
theorem RhoM.add {kv : List (Int × Int)} {i : Nat} {f : List Int} (hi : i < f.length) (h : RhoM kv (f.take i)) (hn : f.Nodup) : RhoM (na kv f[i] (2 * (i : Int) + 2)) (f.take (i + 1)) := by
 intro x
 have hlen : (f.take i).length = i := by rw [List.length_take]; omega
 have hni : f[i] ∉ f.take i := by
  intro hm
  obtain ⟨j, hj, e⟩ := List.getElem_of_mem hm
  rw [List.length_take] at hj
  rw [List.getElem_take] at e
  exact List.pairwise_iff_getElem.1 (List.nodup_iff_pairwise_ne.1 hn) j i (by omega) hi (by omega) e
 rw [yp, aP hi]
 unfold lT
 rw [List.idxOf_append]
 by_cases e : f[i] = x
 ·rw [if_pos e, ← e, if_pos (List.mem_append_right _ (by simp)), if_neg hni]
  simp [hlen]
 rw [if_neg e, h x]
 by_cases hm : x ∈ f.take i
 ·rw [if_pos hm, if_pos (List.mem_append_left _ hm), if_pos hm]; rfl
 rw [if_neg hm, if_neg (by simp only [List.mem_append, List.mem_singleton]; exact fun hh => hh.elim hm fun hh => e hh.symm)]
structure Coll where
 next : DMemory
 now : List DValue
 gone : List DValue
def C4 (N : Nat) (m : DMemory) (roots : List DValue) (live f : List Int) : Coll :=
 ⟨⟨[], f.map fun a => eM (lT f) f (iP N live (bI m a))⟩, roots.map (cu (lT f) f), (f.flatMap fun a => gv live (bI m a)).map (cu (lT f) f)⟩
structure Mild (g : DValue → DValue) : Prop where
 z : g vZ = vZ
 kind : ∀ v, (g v).Kind = v.Kind
 num : ∀ v, v.Kind = 3 → g v = v
 may : ∀ v, lO v = true → lO (g v) = true
section
variable {g : DValue → DValue} (h : Mild g)
include h
theorem Mild.at_ (l : List DValue) (i : Nat) : lI (l.map g) i = g (lI l i) := by
 unfold lI
 simp only [List.getD, List.getElem?_map]
 cases l[i]? with
 | none => exact h.z.symm
 | some v => rfl
theorem Mild.numB (v : DValue) (a b : Int) : Go.Proofs.YtmbaennilhdieaaGreat.numB (g v) a b = Go.Proofs.YtmbaennilhdieaaGreat.numB v a b := by
 unfold Go.Proofs.YtmbaennilhdieaaGreat.numB
 by_cases h3 : v.Kind = 3
 ·rw [h.num v h3]
 rw [h.kind, decide_eq_false h3]; rfl
theorem Mild.noneB (v : DValue) (k : Int) : Go.Proofs.YtmbaennilhdieaaGreat.noneB (g v) k = Go.Proofs.YtmbaennilhdieaaGreat.noneB v k := by
 unfold Go.Proofs.YtmbaennilhdieaaGreat.noneB; rw [h.kind]
theorem Mild.ent2 : ∀ l : List DValue, ka (l.map g) = ka l
 | [] => rfl
 | [_] => rfl
 | k :: v :: r => by
  simp only [List.map_cons]
  simp only [gq]
  rw [h.kind, h.kind, Mild.ent2 r]
theorem Mild.ent4 : ∀ l : List DValue, iH (l.map g) = iH l
 | [] => rfl
 | [_] => rfl
 | [_, _] => rfl
 | [_, _, _] => rfl
 | t :: v :: k :: s :: r => by
  simp only [List.map_cons]
  simp only [jn]
  rw [h.kind, h.kind, h.noneB, h.numB, Mild.ent4 r]
theorem Mild.slots (k sh fl : Int) (l : List DValue) : lp k sh fl (l.map g) = lp k sh fl l := by
 unfold lp
 simp only [List.length_map, h.at_, h.kind, h.noneB]
theorem Mild.more (k : Int) (l : List DValue) : mx k (l.map g) = mx k l := by
 unfold mx
 rw [← List.map_drop, h.ent2, h.ent4]
 simp only [List.length_map, h.at_, h.kind, h.noneB, h.numB]
theorem Mild.all {l : List DValue} (hl : l.all lO = true) : (l.map g).all lO = true := by
 rw [List.all_eq_true] at hl ⊢
 intro v hv
 obtain ⟨w, hw, rfl⟩ := List.mem_map.1 hv
 exact h.may w (hl w hw)
theorem Mild.right {c : DCell} (hc : ea c = true) : ea ⟨c.Kind, c.Shape, c.Flags, c.Age, c.Slots.map g, c.More.map g⟩ = true := by
 unfold ea at hc ⊢
 simp only [Bool.and_eq_true] at hc
 obtain ⟨h1, h2, h3, h4, h5⟩ := hc
 simp only [h.slots, h.more, h.all h2, h.all h3, h4, h5, Bool.and_true]
 simp only [Bool.and_eq_true]
 exact h1
end
theorem CT {v : DValue} (hb : bj v = true) : lO v = ((v.S.toList == (⟨#[]⟩ : ByteArray).toList) && decide (1 ≤ v.N)) := by
 have hk : v.Kind = 7 ∨ v.Kind = 9 := by
  unfold bj at hb
  rw [Bool.or_eq_true, decide_eq_true_eq, decide_eq_true_eq] at hb; exact hb
 unfold lO eV
 rcases hk with hk | hk <;> rw [hk] <;> cases (v.S.toList == (⟨#[]⟩ : ByteArray).toList) <;> rfl
structure Ren (ρ : Int → Int) (f : List Int) : Prop where
 inj : ∀ a b, a ∈ f → b ∈ f → ρ a = ρ b → a = b
 pos : ∀ a ∈ f, 1 ≤ ρ a
theorem EZ {ρ : Int → Int} {f : List Int} (hρ : Ren ρ f) : Mild (cu ρ f) where
 z := rfl
 kind v := by unfold cu; cases bj v && decide (v.N ∈ f) <;> rfl
 num v h := by
  have : bj v = false := by unfold bj; rw [h]; rfl
  unfold cu; rw [this]; rfl
 may v h := by
  cases hb : bj v && decide (v.N ∈ f) with
  | false => unfold cu; rw [hb]; exact h
  | true =>
   have hb0 := (Bool.and_eq_true _ _ ▸ hb : bj v = true ∧ decide (v.N ∈ f) = true)
   have hb1 := hb0.1
   have e : cu ρ f v = ⟨v.Kind, ρ v.N, v.S⟩ := by unfold cu; rw [hb]; rfl
   have hb2 : bj (⟨v.Kind, ρ v.N, v.S⟩ : DValue) = true := hb1
   rw [e, CT hb2]
   rw [CT hb1, Bool.and_eq_true] at h
   rw [Bool.and_eq_true]
   exact ⟨h.1, decide_eq_true (hρ.pos _ (of_decide_eq_true hb0.2))⟩
theorem DR {ρ : Int → Int} {f : List Int} (hρ : Ren ρ f) {c : DCell} (h : ea c = true) : ea (eM ρ f c) = true := (EZ hρ).right h
theorem pH {c : DCell} (h : ea c = true) : c.Slots.all lO = true ∧ c.More.all lO = true ∧ mx c.Kind c.More = true := by
 unfold ea at h
 simp only [Bool.and_eq_true] at h
 exact ⟨h.2.1, h.2.2.1, h.2.2.2.2⟩
theorem wg {c : DCell} (h : ea c = true) {m : List DValue} (h1 : m.all lO = true) (h2 : mx c.Kind m = true) : ea ⟨c.Kind, c.Shape, c.Flags, c.Age, c.Slots, m⟩ = true := by
 unfold ea at h ⊢
 simp only [Bool.and_eq_true] at h
 obtain ⟨g1, g2, g3, g4, g5⟩ := h
 simp only [g2, h1, g4, h2, Bool.and_true]
 simp only [Bool.and_eq_true]
 exact g1
theorem xi (p : Int → Bool) : ∀ {l : List DValue}, ka l = true → ka (cq p l) = true
 | [], _ => rfl
 | [_], h => by cases h
 | k :: v :: r, h => by
  rw [gq] at h
  rw [Bool.and_eq_true] at h
  have ih := xi p h.2
  simp only [li]
  cases p k.N
  ·exact ih
  show ka (k :: v :: cq p r) = true
  simp only [gq]
  rw [h.1, ih]; rfl
theorem yK (lv : List Int) : ∀ {l : List DValue}, iH l = true → iH (d8 lv l) = true
 | [], _ => rfl
 | [_], h => by cases h
 | [_, _], h => by cases h
 | [_, _, _], h => by cases h
 | t :: v :: k :: s :: r, h => by
  rw [jn] at h
  rw [Bool.and_eq_true, Bool.and_eq_true, Bool.and_eq_true, Bool.and_eq_true] at h
  obtain ⟨⟨⟨h1, h2⟩, h3, h4⟩, h5⟩ := h
  have ih := yK lv h5
  simp only [oW]
  cases decide (t.N ∈ lv)
  ·exact ih
  show iH (t :: v :: (bif decide (k.Kind = 7) && !decide (k.N ∈ lv) then jq else k) :: s :: d8 lv r) = true
  simp only [jn]
  have h6 : noneB (bif decide (k.Kind = 7) && !decide (k.N ∈ lv) then jq else k) 7 = true := by
   cases decide (k.Kind = 7) && !decide (k.N ∈ lv)
   ·exact h3
   rfl
  rw [h1, h2, h6, h4, ih]; rfl
theorem wX (lv : List Int) {x : DValue} : ∀ {l : List DValue}, x ∈ d8 lv l → x ∈ l ∨ x = jq
 | [], h => by simp [d8] at h
 | [_], h => by simp [d8] at h
 | [_, _], h => by simp [d8] at h
 | [_, _, _], h => by simp [d8] at h
 | t :: v :: k :: s :: r, h => by
  simp only [oW] at h
  rcases List.mem_append.1 h with h | h
  ·cases hd : decide (t.N ∈ lv) with
   | false => rw [hd] at h; cases h
   | true =>
    rw [hd] at h
    cases hk : decide (k.Kind = 7) && !decide (k.N ∈ lv) with
    | false => rw [hk] at h; simp at h; rcases h with h | h | h | h <;> subst h <;> simp
    | true => rw [hk] at h; simp at h; rcases h with h | h | h | h <;> subst h <;> simp
  rcases wX lv h with h | h
  ·exact .inl (by simp [h])
  exact .inr h
theorem E3 : lO jq = true := by kernel_rfl
theorem Ef (N : Nat) (lv : List Int) {c : DCell} (h : ea c = true) : ea (iP N lv c) = true := by
 obtain ⟨h1, h2, h3⟩ := pH h
 unfold iP
 by_cases h8 : c.Kind = 8
 ·rw [lQ h8, cond_true]
  unfold bR
  cases gB N c
  ·exact h
  refine wg h (m := cq (fun x => decide (x ∈ lv)) c.More) ?_ ?_
  ·rw [List.all_eq_true] at h2 ⊢
   exact fun v hv => h2 v (si hv)
  rw [h8] at h3 ⊢
  exact xi _ h3
 rw [eO h8, cond_false]
 by_cases h10 : c.Kind = 10
 ·rw [lQ h10, cond_true]
  rw [h10] at h3
  have h3' : (decide (1 ≤ c.More.length) && decide ((lI c.More 0).Kind = 7) && iH (c.More.drop 1)) = true := h3
  simp only [Bool.and_eq_true, decide_eq_true_eq] at h3'
  obtain ⟨⟨g1, g2⟩, g3⟩ := h3'
  refine wg h (m := c.More.take 1 ++ d8 lv (c.More.drop 1)) ?_ ?_
  ·rw [List.all_eq_true] at h2 ⊢
   intro v hv
   rcases List.mem_append.1 hv with hv | hv
   ·exact h2 v (List.mem_of_mem_take hv)
   rcases wX lv hv with hv | rfl
   ·exact h2 v (List.mem_of_mem_drop hv)
   exact E3
  rw [h10]
  show (decide (1 ≤ (c.More.take 1 ++ d8 lv (c.More.drop 1)).length) && decide ((lI (c.More.take 1 ++ d8 lv (c.More.drop 1)) 0).Kind = 7) && iH ((c.More.take 1 ++ d8 lv (c.More.drop 1)).drop 1)) = true
  obtain ⟨a, r, hr⟩ : ∃ a r, c.More = a :: r := by
   cases hm : c.More with
   | nil => rw [hm] at g1; simp at g1
   | cons a r => exact ⟨a, r, rfl⟩
  rw [hr] at g2 g3 ⊢
  have e1 : (a :: r).take 1 ++ d8 lv ((a :: r).drop 1) = a :: d8 lv r := rfl
  rw [e1]
  have g3' : iH r = true := g3
  have g2' : a.Kind = 7 := g2
  simp only [Bool.and_eq_true, decide_eq_true_eq]
  exact ⟨⟨by simp, g2'⟩, yK lv g3'⟩
 rw [eO h10, cond_false]; exact h
end Go.Proofs.YtmbaennilhdieaaGreat
namespace Go.Proofs.YtmbaennilhdieaaGreat
open Go.RowKit
structure MapG (g g' : Gr) (ρ : Int → Int) (S : Int → Prop) : Prop where
 inj : ∀ a b, S a → S b → ρ a = ρ b → a = b
 has : ∀ a, S a → g.has a = true ∧ g'.has (ρ a) = true
 leads : ∀ a, S a → g'.leads (ρ a) = (g.leads a).map ρ ∧ ∀ x ∈ g.leads a, S x
 opens : ∀ row a, (∀ x ∈ row, S x) → S a → g'.opens (row.map ρ) (ρ a) = (g.opens row a).map ρ ∧ ∀ x ∈ g.opens row a, S x
theorem zx {ρ : Int → Int} {S : Int → Prop} (inj : ∀ a b, S a → S b → ρ a = ρ b → a = b) {l : List Int} (hl : ∀ x ∈ l, S x) {a : Int} (ha : S a) : ρ a ∈ l.map ρ ↔ a ∈ l := by
 constructor
 ·intro h
  obtain ⟨b, hb, e⟩ := List.mem_map.1 h
  exact inj b a (hl b hb) ha e ▸ hb
 exact fun h => List.mem_map.2 ⟨a, h, rfl⟩
theorem MapG.lay {g g' : Gr} {ρ : Int → Int} {S : Int → Prop} (h : MapG g g' ρ S) : ∀ (l row : List Int), (∀ x ∈ row, S x) → (∀ x ∈ l, S x) → cL g'.has (row.map ρ) (l.map ρ) = (cL g.has row l).map ρ ∧ ∀ x ∈ cL g.has row l, S x
 | [], row, hr, _ => ⟨rfl, hr⟩
 | x :: l, row, hr, hl => by
  have hx := hl x (by simp)
  obtain ⟨h1, h2⟩ := h.has x hx
  rw [List.map_cons]
  unfold cL
  rw [h1, h2, Bool.true_and, Bool.true_and]
  by_cases hm : x ∈ row
  ·rw [decide_eq_true hm, decide_eq_true ((zx h.inj hr hx).2 hm)]
   exact h.lay l row hr fun y hy => hl y (by simp [hy])
  rw [decide_eq_false hm, decide_eq_false fun hh => hm ((zx h.inj hr hx).1 hh)]
  have := h.lay l (row ++ [x]) (fun y hy => (List.mem_append.1 hy).elim (hr y) fun hy => by rw [List.mem_singleton] at hy; subst hy; exact hx) fun y hy => hl y (by simp [hy])
  rw [List.map_append] at this
  exact this
theorem MapG.thr {g g' : Gr} {ρ : Int → Int} {S : Int → Prop} (h : MapG g g' ρ S) {row r : List Int} {k : Nat} (ht : Thr g row k r) : (∀ x ∈ row, S x) → Thr g' (row.map ρ) k (r.map ρ) ∧ ∀ x ∈ r, S x := by
 induction ht with
 | done hk => exact fun hr => ⟨.done (by simpa using hk), hr⟩
 | step ha _ ih =>
  rename_i row k a r _
  intro hr
  have hS := hr a (List.mem_of_getElem? ha)
  obtain ⟨l1, l2⟩ := h.leads a hS
  obtain ⟨g1, g2⟩ := h.lay (g.leads a) row hr l2
  obtain ⟨t1, t2⟩ := ih g2
  refine ⟨.step (a := ρ a) (by rw [List.getElem?_map, ha]; rfl) ?_, t2⟩
  rw [l1, g1]; exact t1
theorem MapG.pass {g g' : Gr} {ρ : Int → Int} {S : Int → Prop} (h : MapG g g' ρ S) : ∀ (avs row : List Int), (∀ x ∈ row, S x) → (∀ x ∈ avs, S x) → gT g' (row.map ρ) (avs.map ρ) = (gT g row avs).map ρ ∧ ∀ x ∈ gT g row avs, S x
 | [], row, hr, _ => ⟨rfl, hr⟩
 | a :: avs, row, hr, hl => by
  obtain ⟨l1, l2⟩ := h.opens row a hr (hl a (by simp))
  obtain ⟨g1, g2⟩ := h.lay (g.opens row a) row hr l2
  rw [List.map_cons]
  unfold gT
  rw [l1, g1]
  exact h.pass avs _ g2 fun y hy => hl y (by simp [hy])
theorem MapG.ord {g g' : Gr} {ρ : Int → Int} {S : Int → Prop} (h : MapG g g' ρ S) {row r : List Int} (ht : Ord g row r) : (∀ x ∈ row, S x) → Ord g' (row.map ρ) (r.map ρ) ∧ ∀ x ∈ r, S x := by
 induction ht with
 | done hp =>
  intro hr
  obtain ⟨g1, -⟩ := h.pass _ _ hr hr
  exact ⟨.done (by rw [g1, hp]), hr⟩
 | step hp h1 _ ih =>
  rename_i row r1 r _
  intro hr
  obtain ⟨g1, g2⟩ := h.pass _ _ hr hr
  obtain ⟨t1, t2⟩ := h.thr h1 g2
  obtain ⟨o1, o2⟩ := ih t2
  refine ⟨.step (r1 := r1.map ρ) ?_ ?_ o1, o2⟩
  ·rw [g1]
   intro e
   apply hp
   obtain ⟨t, e2⟩ := lV g row row
   have e3 := congrArg List.length e
   rw [List.length_map, List.length_map, e2, List.length_append] at e3
   have : t = [] := List.eq_nil_of_length_eq_zero (by omega)
   rw [e2, this, List.append_nil]
  rw [g1, List.length_map]; exact t1
theorem MapG.isOrder {g g' : Gr} {ρ : Int → Int} {S : Int → Prop} (h : MapG g g' ρ S) {roots b l : List Int} (ho : IsOrder g roots b l) (hr : ∀ x ∈ roots, S x) : IsOrder g' (roots.map ρ) (b.map ρ) (l.map ρ) ∧ ∀ x ∈ l, S x := by
 obtain ⟨h1, h2⟩ := ho
 obtain ⟨g1, g2⟩ := h.lay roots [] (fun _ h => by cases h) hr
 obtain ⟨t1, t2⟩ := h.thr h1 g2
 obtain ⟨o1, o2⟩ := h.ord h2 t2
 refine ⟨⟨?_, o1⟩, o2⟩
 have g1' : cL g'.has [] (roots.map ρ) = (cL g.has [] roots).map ρ := g1
 rw [g1']; exact t1
def cV {α : Type} (g : α → Nat) : List α → Nat
 | [] => 0
 | a :: l => g a + cV g l
theorem pD {α : Type} (g : α → Nat) : ∀ a b : List α, cV g (a ++ b) = cV g a + cV g b
 | [], b => by simp [cV]
 | c :: a, b => by rw [List.cons_append, cV, cV, pD g a b]; omega
theorem Dy {α : Type} (g : α → Nat) {a b : List α} (h : a.Perm b) : cV g a = cV g b := by
 induction h with
 | nil => rfl
 | cons x _ ih => rw [cV, cV, ih]
 | swap x y l => rw [cV, cV, cV, cV]; omega
 | trans _ _ h1 h2 => rw [h1, h2]
theorem pB (g : Int → Nat) : ∀ {l L : List Int}, l.Nodup → (∀ x ∈ l, x ∈ L) → cV g l ≤ cV g L
 | [], _, _, _ => Nat.zero_le _
 | a :: l, L, hn, hs => by
  obtain ⟨h1, h2⟩ := List.nodup_cons.1 hn
  have hp := List.perm_cons_erase (hs a (by simp))
  rw [Dy g hp, cV, cV]
  have := pB g (l := l) (L := L.erase a) h2 fun x hx => (List.mem_erase_of_ne (fun e : x = a => h1 (by rw [← e]; exact hx))).2 (hs x (by simp [hx]))
  omega
theorem kW {α β : Type} (g : β → Nat) (f : α → β) : ∀ l : List α, cV g (l.map f) = cV (fun x => g (f x)) l
 | [] => rfl
 | x :: l => by rw [List.map_cons, cV, cV, kW g f l]
theorem vu {α : Type} {g h : α → Nat} : ∀ {l : List α}, (∀ x ∈ l, g x ≤ h x) → cV g l ≤ cV h l
 | [], _ => Nat.le_refl _
 | x :: l, hh => by
  rw [cV, cV]
  have h1 := hh x (by simp)
  have h2 := vu (l := l) fun y hy => hh y (by simp [hy])
  omega
theorem uR {α β : Type} (f : α → List β) : ∀ l : List α, (l.flatMap f).length = cV (fun x => (f x).length) l
 | [] => rfl
 | x :: l => by rw [List.flatMap_cons, List.length_append, cV, uR f l]
theorem Am {α : Type} (g h : α → Nat) : ∀ l : List α, cV (fun x => g x + h x) l = cV g l + cV h l
 | [] => rfl
 | x :: l => by rw [cV, cV, cV, Am g h l]; omega
def wC (c : DCell) : Nat := 1 + c.Slots.length + c.More.length
theorem pw : ∀ l : List DCell, wt l = cV wC l
 | [] => rfl
 | c :: l => by rw [wt, cV, pw l]; rfl
def xy (m : DMemory) : List Int := (List.range m.Young.length).map (fun i : Nat => 2 * (i : Int) + 1) ++ (List.range m.Old.length).map (fun i : Nat => 2 * (i : Int) + 2)
theorem FT (m : DMemory) (i : Nat) (h : i < m.Young.length) : bI m (2 * (i : Int) + 1) = m.Young[i] := by
 unfold bI dI
 rw [if_neg (by omega), if_pos (by omega), show ((2 * (i : Int) + 1 - 1) / 2).toNat = i by omega, List.getElem?_eq_getElem h]; rfl
theorem uY (m : DMemory) (i : Nat) (h : i < m.Old.length) : bI m (2 * (i : Int) + 2) = m.Old[i] := by
 unfold bI dI
 rw [if_neg (by omega), if_neg (by omega), show ((2 * (i : Int) + 2 - 2) / 2).toNat = i by omega, List.getElem?_eq_getElem h]; rfl
theorem Fa (m : DMemory) (i : Nat) : aT m (2 * (i : Int) + 1) = decide (i < m.Young.length) := by
 unfold aT dI
 rw [if_neg (by omega), if_pos (by omega), show ((2 * (i : Int) + 1 - 1) / 2).toNat = i by omega]
 by_cases h : i < m.Young.length
 ·rw [List.getElem?_eq_getElem h, decide_eq_true h]; rfl
 rw [List.getElem?_eq_none (by omega), decide_eq_false h]; rfl
theorem xa (m : DMemory) (i : Nat) : aT m (2 * (i : Int) + 2) = decide (i < m.Old.length) := by
 unfold aT dI
 rw [if_neg (by omega), if_neg (by omega), show ((2 * (i : Int) + 2 - 2) / 2).toNat = i by omega]
 by_cases h : i < m.Old.length
 ·rw [List.getElem?_eq_getElem h, decide_eq_true h]; rfl
 rw [List.getElem?_eq_none (by omega), decide_eq_false h]; rfl
theorem xx (m : DMemory) : (xy m).map (bI m) = m.Young ++ m.Old := by
 unfold xy
 rw [List.map_append, List.map_map, List.map_map]
 congr 1
 ·refine List.ext_getElem (by simp) fun i h1 h2 => ?_
  simp only [List.getElem_map, List.getElem_range, Function.comp]
  exact FT m i h2
 refine List.ext_getElem (by simp) fun i h1 h2 => ?_
 simp only [List.getElem_map, List.getElem_range, Function.comp]
 exact uY m i h2
theorem up {m : DMemory} {a : Int} (h : aT m a = true) : (∃ i : Nat, i < m.Young.length ∧ a = 2 * (i : Int) + 1) ∨ ∃ i : Nat, i < m.Old.length ∧ a = 2 * (i : Int) + 2 := by
 rcases o6 m a with ⟨h1, h2⟩ | ⟨k, h1, -⟩ | ⟨k, h1, -⟩
 ·unfold aT at h; rw [h2] at h; cases h
 ·subst h1; rw [Fa] at h; exact .inl ⟨k, of_decide_eq_true h, rfl⟩
 subst h1; rw [xa] at h; exact .inr ⟨k, of_decide_eq_true h, rfl⟩
theorem tg {m : DMemory} {a : Int} (h : aT m a = true) : a ∈ xy m := by
 unfold xy
 rcases up h with ⟨i, h1, rfl⟩ | ⟨i, h1, rfl⟩
 ·exact List.mem_append_left _ (List.mem_map.2 ⟨i, List.mem_range.2 h1, rfl⟩)
 exact List.mem_append_right _ (List.mem_map.2 ⟨i, List.mem_range.2 h1, rfl⟩)
theorem ED {m : DMemory} {l : List Int} (hn : l.Nodup) (hh : ∀ a ∈ l, aT m a = true) : cV (fun a => wC (bI m a)) l ≤ wt m.Young + wt m.Old := by
 have h1 := pB (fun a => wC (bI m a)) hn fun a ha => tg (hh a ha)
 have h2 := kW wC (bI m) (xy m)
 rw [xx, ← pw, vR] at h2
 omega
theorem z6 {m : DMemory} {a : Int} (h : aT m a = true) : bI m a ∈ m.Young ++ m.Old := by
 unfold aT at h
 unfold bI
 cases hc : dI m a with
 | none => rw [hc] at h; cases h
 | some c => exact mU hc
end Go.Proofs.YtmbaennilhdieaaGreat