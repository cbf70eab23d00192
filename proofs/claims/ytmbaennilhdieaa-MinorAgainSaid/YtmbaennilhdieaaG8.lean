/- Merged texts: part 8. No conditions of their own. -/
import Derived.ProofKit
import Derived.Test.YtmbaennilhdieaaG7
import Derived.Test.YtmbaennilhdieaaG3
namespace Go.Proofs.Ytmbaennilhdieaa
open Go.RowKit
structure Gr where
 has : Int → Bool
 leads : Int → List Int
 opens : List Int → Int → List Int
def dS (has : Int → Bool) : List Int → List Int → List Int
 | row, [] => row
 | row, x :: l => dS has (bif has x && !decide (x ∈ row) then row ++ [x] else row) l
inductive Thr (g : Gr) : List Int → Nat → List Int → Prop
 | done {row : List Int} {k : Nat} : row.length ≤ k → Thr g row k row
 | step {row : List Int} {k : Nat} {a : Int} {r : List Int} : row[k]? = some a → Thr g (dS g.has row (g.leads a)) (k + 1) r → Thr g row k r
def wQ (g : Gr) : List Int → List Int → List Int
 | row, [] => row
 | row, a :: avs => wQ g (dS g.has row (g.opens row a)) avs
inductive Ord (g : Gr) : List Int → List Int → Prop
 | done {row : List Int} : wQ g row row = row → Ord g row row
 | step {row r1 r : List Int} : wQ g row row ≠ row → Thr g (wQ g row row) row.length r1 → Ord g r1 r → Ord g row r
structure IsOrder (g : Gr) (roots : List Int) (b l : List Int) : Prop where
 strong : Thr g (dS g.has [] roots) 0 b
 all : Ord g b l
theorem ie (has : Int → Bool) : ∀ (row l : List Int), ∃ t, dS has row l = row ++ t ∧ (∀ x ∈ t, has x = true ∧ x ∈ l)
 | row, [] => ⟨[], by simp [dS], by simp⟩
 | row, x :: l => by
  unfold dS
  cases h : has x && !decide (x ∈ row) with
  | false =>
   obtain ⟨t, h1, h2⟩ := ie has row l
   exact ⟨t, h1, fun y hy => ⟨(h2 y hy).1, by simp [(h2 y hy).2]⟩⟩
  | true =>
   obtain ⟨t, h1, h2⟩ := ie has (row ++ [x]) l
   refine ⟨x :: t, by rw [cond_true, h1]; simp, fun y hy => ?_⟩
   rw [Bool.and_eq_true] at h
   rcases List.mem_cons.1 hy with e | hy
   ·subst e; exact ⟨h.1, by simp⟩
   exact ⟨(h2 y hy).1, by simp [(h2 y hy).2]⟩
theorem oH (has : Int → Bool) : ∀ (row l l' : List Int), dS has row (l ++ l') = dS has (dS has row l) l'
 | _, [], _ => rfl
 | row, x :: l, l' => by
  show dS has _ (l ++ l') = _
  rw [oH has _ l l']; rfl
theorem oI {has : Int → Bool} : ∀ (row l : List Int) {x : Int}, x ∈ l → has x = true → x ∈ dS has row l
 | row, y :: l, x, h, hx => by
  unfold dS
  rcases List.mem_cons.1 h with e | h
  ·subst e
   obtain ⟨t, h1, -⟩ := ie has (bif has x && !decide (x ∈ row) then row ++ [x] else row) l
   rw [h1]
   refine List.mem_append_left _ ?_
   rw [hx, Bool.true_and]
   by_cases hm : x ∈ row <;> simp [hm]
  exact oI _ l h hx
theorem Thr.app {g : Gr} {row r : List Int} {k : Nat} (h : Thr g row k r) : ∃ t, r = row ++ t := by
 induction h with
 | done _ => exact ⟨[], by simp⟩
 | step _ _ ih =>
  rename_i row _ a _ _ _
  obtain ⟨t, rfl⟩ := ih
  obtain ⟨t2, h1, -⟩ := ie g.has row (g.leads a)
  exact ⟨t2 ++ t, by rw [h1, List.append_assoc]⟩
def CloG (g : Gr) (row : List Int) (k : Nat) : Prop := ∀ (i : Nat) (a x : Int), i < k → row[i]? = some a → x ∈ g.leads a → g.has x = true → x ∈ row
theorem CloG.app {g : Gr} {row t : List Int} {k : Nat} (hk : k ≤ row.length) (h : CloG g row k) : CloG g (row ++ t) k := fun i a x hi ha hx hh => by
 rw [List.getElem?_append_left (by omega)] at ha
 exact List.mem_append_left _ (h i a x hi ha hx hh)
theorem Thr.clo {g : Gr} {row r : List Int} {k : Nat} (h : Thr g row k r) (hk : k ≤ row.length) (hc : CloG g row k) : CloG g r r.length := by
 induction h with
 | done hk2 => intro i a x hi ha hx hh; exact hc i a x (by omega) ha hx hh
 | step ha _ ih =>
  rename_i row k a _ _
  have hlt := (List.getElem?_eq_some_iff.1 ha).1
  obtain ⟨t, h1, -⟩ := ie g.has row (g.leads a)
  refine ih (by rw [h1, List.length_append]; omega) fun i b x hi hb hx hh => ?_
  by_cases e : i = k
  ·subst e
   rw [h1, List.getElem?_append_left hlt, ha] at hb
   cases hb
   exact oI _ _ hx hh
  rw [h1] at hb ⊢
  exact (CloG.app hk hc (t := t)) i b x (by omega) hb hx hh
structure ClosedS (g : Gr) (S : Int → Prop) : Prop where
 leads : ∀ a, S a → ∀ x ∈ g.leads a, g.has x = true → S x
 opens : ∀ row : List Int, (∀ x ∈ row, S x) → ∀ a, S a → ∀ x ∈ g.opens row a, g.has x = true → S x
def Eg (N : Nat) (m : DMemory) : Gr := ⟨bS m, fun a => bv (cU m a), fun row a => fw N (cU m a) row⟩
def cw (l : List DValue) : List Int := (l.filter bn).map (·.N)
theorem sR (l l' : List DValue) : cw (l ++ l') = cw l ++ cw l' := by unfold cw; simp
theorem mS {l : List DValue} {x : Int} : x ∈ cw l ↔ ∃ v ∈ l, bn v = true ∧ v.N = x := by
 unfold cw; simp only [List.mem_map, List.mem_filter]
 constructor
 ·rintro ⟨v, ⟨h1, h2⟩, h3⟩; exact ⟨v, h1, h2, h3⟩
 rintro ⟨v, h1, h2, h3⟩; exact ⟨v, ⟨h1, h2⟩, h3⟩
def Ee (n : Int) : DValue := ⟨7, n, ⟨#[]⟩⟩
def DW (l : List DValue) : DCell := ⟨11, 0, 0, 0, [], l⟩
def Ej : DMemory := ⟨[⟨11, 0, 0, 0, [], [⟨7, 3, ⟨#[]⟩⟩, ⟨7, 2, ⟨#[]⟩⟩]⟩, ⟨11, 0, 0, 0, [], []⟩], [⟨11, 0, 0, 0, [], []⟩]⟩
def Eh : DMemory := ⟨[⟨8, 0, 0, 0, [⟨1, 0, ⟨#[]⟩⟩], [⟨7, 3, ⟨#[]⟩⟩, ⟨7, 5, ⟨#[]⟩⟩]⟩, ⟨11, 0, 0, 0, [], []⟩, ⟨11, 0, 0, 0, [], []⟩], []⟩
structure Tq (m : DMemory) (all : List Int) : Prop where
 nd : all.Nodup
 has : ∀ x ∈ all, bS m x = true
def Es (s : List Int) (i k : Nat) : Prop := ∀ a b : Nat, a < b → b ≤ i → b ≠ k → s.getD a 0 ≤ s.getD b 0
def cn (c : DCell) : List Int := pick (fun i v => eE c.Kind i && bn v) 0 c.More
theorem uk (N : Nat) (hN : 2000 < N) (c : DCell) (hS : c.Slots.length ≤ 1000) (hc : c.More.length ≤ 1000) : fH N c = some (cn c) := by
 unfold fH cn
 rw [mo N hN false c hS hc, bs]
 have e1 : (fun (_ : Nat) (v : DValue) => (true == false) && bn v) = fun _ _ => false := by funext i v; rfl
 have e2 : (fun (i : Nat) (v : DValue) => (eG c.Kind i == false) && bn v) = fun i v => eE c.Kind i && bn v := by funext i v; rw [pJ]; cases eE c.Kind i <;> rfl
 rw [e1, e2, sm, List.nil_append]
theorem lz (c : DCell) : (cn c).length ≤ c.More.length := ox _ 0 c.More
theorem ul {c : DCell} {x : Int} (h : x ∈ cn c) : ∃ v ∈ c.Slots ++ c.More, v.N = x := by
 obtain ⟨v, h1, h2⟩ := ov h
 exact ⟨v, List.mem_append_right _ h1, h2⟩
theorem qB (N : Nat) (hN : 2000 < N) (c : DCell) (hc : c.More.length ≤ 1000) : fg N c = some (cn c) := by
 apply Sat.eq
 unfold fg cn
 refine ce (fun m i s => r15_Weakly_l6 N c m s (i : Int)) c.More.length (fun i t => t ++ pick (fun i v => eE c.Kind i && bn v) i (c.More.drop i) = pick (fun i v => eE c.Kind i && bn v) 0 c.More ∧ t.length ≤ i) _ ?_ ?_ N 0 [] (by omega) (by omega) ⟨by simp, by simp⟩
 ·rintro m i s hi ⟨h1, h2⟩ k
  show Sat (r15_Weakly_l6 N c (m + 1) s i) _
  rw [List.drop_eq_getElem_cons hi, fh] at h1
  rw [r15_Weakly_l6.eq_2, cy (by omega), ct, aY hi, bs, kG, bs, sd _ _ _ (by omega)]
  unfold gh
  simp only [bs]
  rw [r64 (a := (i : Int) + 1) (by omega) (by omega)]
  cases hh : bn c.More[i] <;> cases hw : eE c.Kind i <;> simp only [hh, hw, Bool.and_true, Bool.and_false, Bool.and_self, ct, cf, bs, List.nil_append] at h1 ⊢
  ·rw [r64 (by omega) (by omega)]; exact k s ⟨h1, by omega⟩
  ·rw [r64 (by omega) (by omega)]; exact k s ⟨h1, by omega⟩
  ·rw [r64 (by omega) (by omega)]; exact k s ⟨h1, by omega⟩
  rw [rF (by simp; omega)]
  exact k _ ⟨by rw [List.append_assoc]; exact h1, by simp; omega⟩
 rintro m s ⟨h1, h2⟩
 show Sat (r15_Weakly_l6 N c (m + 1) s _) _
 rw [List.drop_length] at h1
 rw [r15_Weakly_l6.eq_2, ci (by omega), cf]
 exact aP (by rw [← h1]; simp [pick])
theorem yD (N : Nat) (a b : List DValue) (ha : a.length < N) (ha2 : a.length ≤ 5000) : dc N a b = some (decide (a = b)) := by
 unfold dc
 refine xh _ a b (fun hl m i h h' => ?_) (fun m => ?_) N ha
 ·rw [r15_SameValues_l5.eq_2, cy (by omega), ct, aY h, bs, aY h', bs, r64 (by omega) (by omega)]
  cases decide (a[i] = b[i]) <;> rfl
 rw [r15_SameValues_l5.eq_2, ci (by omega), cf]; rfl
theorem AY (a b : DCell) : decide (a = b) = (decide (a.Kind = b.Kind) && decide (a.Shape = b.Shape) && decide (a.Flags = b.Flags) && decide (a.Age = b.Age) && decide (a.Slots = b.Slots) && decide (a.More = b.More)) := by
 obtain ⟨a1, a2, a3, a4, a5, a6⟩ := a
 obtain ⟨b1, b2, b3, b4, b5, b6⟩ := b
 rw [Bool.eq_iff_iff]
 simp only [Bool.and_eq_true, decide_eq_true_eq, DCell.mk.injEq, and_assoc]
theorem C0 (N : Nat) (a b : DCell) (h1 : a.Slots.length < N) (h2 : a.Slots.length ≤ 5000) (h3 : a.More.length < N) (h4 : a.More.length ≤ 5000) : jf N a b = some (decide (a = b)) := by
 unfold jf
 rw [yD N a.Slots b.Slots h1 h2, yD N a.More b.More h3 h4, AY]
 simp only [bs]
 cases decide (a.Kind = b.Kind) <;> cases decide (a.Shape = b.Shape) <;> cases decide (a.Flags = b.Flags) <;> cases decide (a.Age = b.Age) <;> cases decide (a.Slots = b.Slots) <;> cases decide (a.More = b.More) <;> rfl
def dO (m : DMemory) (l : List Int) : Bool := l.all (bS m)
def me (N : Nat) (m : DMemory) (c : DCell) : Bool := (bI N c).getD false && (dO m (bv c) && dO m (cn c))
def Dr (N : Nat) (m : DMemory) (roots : List DValue) : Bool := m.Young.all (me N m) && (m.Old.all (me N m) && dO m (cw roots))
theorem o4 {m : DMemory} {roots : List DValue} (hs : Small m roots) (hw : W64 m) {c : DCell} (hc : c ∈ m.Young ++ m.Old) : ((bv c).length ≤ 1200 ∧ ∀ x ∈ bv c, aK x) ∧ (cn c).length ≤ 1200 ∧ ∀ x ∈ cn c, aK x := by
 have h1 := hs.cells c hc
 have h2 := jm c
 have h3 := lz c
 refine ⟨⟨by omega, fun x hx => ?_⟩, by omega, fun x hx => ?_⟩
 ·obtain ⟨v, h4, rfl⟩ := wb hx
  exact hw c hc v h4
 obtain ⟨v, h4, rfl⟩ := ul hx
 exact hw c hc v h4
structure Bnd (B : Nat) (m : DMemory) (roots : List DValue) : Prop where
 young : m.Young.length ≤ B
 old : m.Old.length ≤ B
 roots : roots.length ≤ B
 cells : ∀ c ∈ m.Young ++ m.Old, c.Slots.length ≤ B ∧ c.More.length ≤ B
def wt : List DCell → Nat
 | [] => 0
 | c :: l => 1 + c.Slots.length + c.More.length + wt l
def W6 (m : DMemory) (roots : List DValue) : Prop := roots.length + wt m.Young + wt m.Old ≤ 600
structure Wtd (m : DMemory) (roots : List DValue) : Prop where
 le : roots.length + wt m.Young + wt m.Old ≤ 2400
 cnt : m.Young.length + m.Old.length ≤ 600
def dy (p : Int → Bool) : List DValue → List DValue
 | k :: v :: r => (bif p k.N then [k, v] else []) ++ dy p r
 | _ => []
theorem rD (p : Int → Bool) : ∀ l : List DValue, (dy p l).length ≤ l.length
 | [] => by simp [dy]
 | [_] => by simp [dy]
 | k :: v :: r => by
  have := rD p r
  unfold dy
  cases p k.N <;> simp <;> omega
theorem nK {p : Int → Bool} {x : DValue} : ∀ {l : List DValue}, x ∈ dy p l → x ∈ l
 | [], h => by simp [dy] at h
 | [_], h => by simp [dy] at h
 | k :: v :: r, h => by
  unfold dy at h
  rcases List.mem_append.1 h with h | h
  ·cases hp : p k.N with
   | false => rw [hp] at h; cases h
   | true => rw [hp] at h; simp at h; rcases h with h | h <;> simp [h]
  have := nK h; simp [this]
def gu (N : Nat) (l : List Int) (c : DCell) : DCell := bif kS N c then ⟨c.Kind, c.Shape, c.Flags, c.Age, c.Slots, dy (fun x => decide (x ∈ l)) c.More⟩ else c
theorem xV (N : Nat) (hN : 5000 < N) (l : List Int) (hl : l.length ≤ 5000) (y : DCell) (k v : DValue) (s : List DValue) (hs : s.length ≤ 5000) : cm (fun x st => dP N (fun x => dz N x l) y x st) (k, v) (none, s) = some (true, (none, s ++ (bif decide (k.N ∈ l) then [k, v] else []))) := by
 unfold cm dP dz
 simp only [bs, gU N hN l hl]
 cases decide (k.N ∈ l)
 ·simp only [cf, List.append_nil]; rfl
 simp only [ct]
 rw [rF (by simp; omega)]
 rfl
theorem sB (N : Nat) (hN : 5000 < N) (l : List Int) (hl : l.length ≤ 5000) (y c : DCell) (hc : c.More.length ≤ 1000) (he : c.More.length % 2 = 0) : ∀ (m i : Nat) (s : List DValue), c.More.length < m + i → i ≤ c.More.length → i % 2 = 0 → s.length ≤ i → weak_entries_c1_l4 N (cm (fun x st => dP N (fun x => dz N x l) y x st)) c m (i : Int) (none, s) = some (none, s ++ dy (fun x => decide (x ∈ l)) (c.More.drop i))
 | 0, i, s, h, h2, _, _ => by omega
 | m + 1, i, s, h, h2, h3, h4 => by
  rw [weak_entries_c1_l4.eq_2, r64 (a := (i : Int) + 1) (by omega) (by omega)]
  by_cases hi : i < c.More.length
  ·have hi1 : i + 1 < c.More.length := by omega
   have hl1 : aH c.More ((i : Int) + 1) = some c.More[i + 1] := by
    have := aY hi1
    simpa using this
   rw [cy (by omega), ct, aY hi, bs, r64 (a := (i : Int) + 1) (by omega) (by omega), hl1, bs, xV N hN l hl y _ _ s (by omega), bs]
   simp only [nt, cf]
   rw [r64 (by omega) (by omega)]
   have hlen : (s ++ (bif decide (c.More[i].N ∈ l) then [c.More[i], c.More[i + 1]] else [])).length ≤ i + 2 := by
    cases decide (c.More[i].N ∈ l) <;> simp <;> omega
   have := sB N hN l hl y c hc he m (i + 2) _ (by omega) (by omega) (by omega) hlen
   simp only [Int.natCast_add, Int.cast_ofNat_Int] at this
   rw [this, List.drop_eq_getElem_cons hi, List.drop_eq_getElem_cons hi1, List.append_assoc]; rfl
  rw [ci (by omega), cf, List.drop_eq_nil_of_le (by omega)]
  simp [dy]
theorem wn (N : Nat) (hN : 5000 < N) (l : List Int) (hl : l.length ≤ 5000) (c : DCell) (hS : c.Slots.length ≤ 600) (hc : c.More.length ≤ 600) : iI N c l = some (bif kS N c then gu N l c else sc) := by
 obtain ⟨-, h1, h2⟩ := zq N (by omega) c (by omega) (by omega)
 unfold iI lA dA gu
 rw [h1, bs]
 cases hw : kS N c
 ·rfl
 have e : eN N c = some () := rfl
 have := sB N hN l hl c c (by omega) (h2 hw) N 0 [] (by omega) (by omega) rfl (by simp)
 simp only [nt, cf, ct, e, bs, yg N c ⟨hS, hc⟩]
 have h3 : weak_entries_c1_l4 N (cm (fun x st => dP N (fun x => dz N x l) c x st)) c N 0 (none, []) = some (none, [] ++ dy (fun x => decide (x ∈ l)) (c.More.drop 0)) := this
 rw [h3, bs]
 rfl
theorem wq (N : Nat) (l : List Int) (c : DCell) : (gu N l c).Slots.length = c.Slots.length ∧ (gu N l c).More.length ≤ c.More.length := by
 unfold gu
 cases kS N c
 ·exact ⟨rfl, Nat.le_refl _⟩
 exact ⟨rfl, rD _ _⟩
theorem wo {N : Nat} {l : List Int} {c : DCell} {v : DValue} (h : v ∈ (gu N l c).Slots ++ (gu N l c).More) : v ∈ c.Slots ++ c.More := by
 unfold gu at h
 cases hw : kS N c
 ·rw [hw] at h; exact h
 rw [hw] at h
 rcases List.mem_append.1 h with h | h
 ·exact List.mem_append_left _ h
 exact List.mem_append_right _ (nK h)
def tD (N : Nat) (c : DCell) : Bool := decide (c.Kind = 10) && (bI N c).getD false
def BT (N : Nat) (c : DCell) : DCell := bif tD N c then ⟨c.Kind, c.Shape, c.Flags, c.Age, c.Slots, c.More.take 1⟩ else c
def DX (N : Nat) (m : DMemory) : DMemory := ⟨m.Young.map (BT N), m.Old.map (BT N)⟩
theorem wZ {m : DMemory} {roots : List DValue} (hs : Small m roots) {x : Int} (h : bS m x = true) : aK x := by
 have h2 := uS h
 have h3 := xb hs h
 unfold aK; omega
def fR : DValue := ⟨0, 0, ⟨#[]⟩⟩
def cR (l : List Int) : List DValue → List DValue
 | t :: h :: k :: s :: r => (bif decide (t.N ∈ l) then [t, h, (bif decide (k.Kind = 7) && !decide (k.N ∈ l) then fR else k), s] else []) ++ cR l r
 | _ => []
def iZ (l : List Int) (cb : DValue) : List DValue → List DValue
 | t :: h :: _ :: s :: r => (bif decide (t.N ∈ l) then [] else [cb, h, s]) ++ iZ l cb r
 | _ => []
theorem kR (l : List Int) (t h k s : DValue) (r : List DValue) : cR l (t :: h :: k :: s :: r) = (bif decide (t.N ∈ l) then [t, h, (bif decide (k.Kind = 7) && !decide (k.N ∈ l) then fR else k), s] else []) ++ cR l r := Eq.trans rfl rfl
theorem vD (l : List Int) (cb t h k s : DValue) (r : List DValue) : iZ l cb (t :: h :: k :: s :: r) = (bif decide (t.N ∈ l) then [] else [cb, h, s]) ++ iZ l cb r := Eq.trans rfl rfl
theorem mi (p : Int → Bool) (k v : DValue) (r : List DValue) : dy p (k :: v :: r) = (bif p k.N then [k, v] else []) ++ dy p r := Eq.trans rfl rfl
theorem zn (l : List Int) (cb : DValue) : ∀ xs : List DValue, (cR l xs).length + (iZ l cb xs).length ≤ xs.length
 | [] => by simp [cR, iZ]
 | [_] => by simp [cR, iZ]
 | [_, _] => by simp [cR, iZ]
 | [_, _, _] => by simp [cR, iZ]
 | t :: h :: k :: s :: r => by
  have := zn l cb r
  unfold cR iZ
  cases decide (t.N ∈ l) <;> simp <;> omega
def mj (l : List Int) (c : DCell) : DCell × List DValue := (⟨c.Kind, c.Shape, c.Flags, c.Age, c.Slots, c.More.take 1 ++ cR l (c.More.drop 1)⟩, iZ l (c.More.headD fR) (c.More.drop 1))
theorem Dz {l : List DValue} (h : 4 ≤ l.length) : ∃ t a k s r, l = t :: a :: k :: s :: r := by
 match l, h with
 | t :: a :: k :: s :: r, _ => exact ⟨t, a, k, s, r, rfl⟩
theorem uU (N : Nat) (hN : 5000 < N) (l : List Int) (p : List (Int × Bool)) (hp : ∀ x, (lk p x).getD false = decide (x ∈ l)) (c y : DCell) (cb : DValue) (hcb : c.More[0]? = some cb) (hc : c.More.length ≤ 1000) : ∀ (m i : Nat) (o t : List DValue), c.More.length < m + i → i ≤ c.More.length → (c.More.length - i) % 4 = 0 → o.length ≤ i → t.length ≤ i → finreg_entries_c1_l4 N (cm (fun x st => cF N c p y x st)) c m (i : Int) (none, (o, t)) = some (none, (o ++ cR l (c.More.drop i), t ++ iZ l cb (c.More.drop i)))
 | 0, i, o, t, h, h2, _, _, _ => by omega
 | m + 1, i, o, t, h, h2, h3, h4, h5 => by
  rw [finreg_entries_c1_l4.eq_2, r64 (a := (i : Int) + 4) (by omega) (by omega)]
  by_cases hi : i + 4 ≤ c.More.length
  ·obtain ⟨v1, v2, v3, v4, r, hd⟩ := Dz (l := c.More.drop i) (by rw [List.length_drop]; omega)
   have hd4 : c.More.drop (i + 4) = r := by rw [← List.drop_drop, hd]; rfl
   have hx : (c.More.drop (i : Int).toNat).take (((i : Int) + 4).toNat - (i : Int).toNat) = [v1, v2, v3, v4] := by
    rw [Int.toNat_natCast, show ((i : Int) + 4).toNat - i = 4 by omega, hd]; rfl
   have h0 : aH c.More 0 = some cb := by
    have := jn c.More 0
    rw [hcb] at this; exact this
   have e0 : aH [v1, v2, v3, v4] 0 = some v1 := rfl
   have e1 : aH [v1, v2, v3, v4] 1 = some v2 := rfl
   have e2 : aH [v1, v2, v3, v4] 2 = some v3 := rfl
   have e3 : aH [v1, v2, v3, v4] 3 = some v4 := rfl
   rw [zl (by omega), ct, r64 (by omega) (by omega), r64 (by omega) (by omega), iC ⟨by omega, by omega, by omega, by omega⟩, hx]
   have hb : cm (fun x st => cF N c p y x st) ((i : Int), [v1, v2, v3, v4]) (none, (o, t)) = some (true, (none, (o ++ (bif decide (v1.N ∈ l) then [v1, v2, (bif decide (v3.Kind = 7) && !decide (v3.N ∈ l) then fR else v3), v4] else []), t ++ (bif decide (v1.N ∈ l) then [] else [cb, v2, v4])))) := by
    unfold cm cF
    simp only [e0, e1, e2, e3, bs, hp, h0]
    unfold fj
    simp only [e0, e1, e2, e3, bs]
    cases decide (v1.N ∈ l)
    ·simp only [nf, ct, cf, List.append_nil]
     rw [rF (by simp; omega)]; rfl
    simp only [nt, ct, cf, List.append_nil]
    rw [rF (by simp; omega), rF (by simp; omega)]
    cases decide (v3.Kind = 7) <;> cases decide (v3.N ∈ l) <;> rfl
   rw [hb, bs]
   simp only [nt, cf]
   rw [r64 (by omega) (by omega)]
   have := uU N hN l p hp c y cb hcb hc m (i + 4) (o ++ (bif decide (v1.N ∈ l) then [v1, v2, (bif decide (v3.Kind = 7) && !decide (v3.N ∈ l) then fR else v3), v4] else [])) (t ++ (bif decide (v1.N ∈ l) then [] else [cb, v2, v4])) (by omega) hi (by omega) (by cases decide (v1.N ∈ l) <;> simp <;> omega) (by cases decide (v1.N ∈ l) <;> simp <;> omega)
   rw [show (((i + 4 : Nat)) : Int) = (i : Int) + 4 by omega] at this
   rw [this, hd4, hd, List.append_assoc, List.append_assoc]; rfl
  rw [zm (by omega), cf, List.drop_eq_nil_of_le (by omega)]
  simp [cR, iZ]
theorem AN (N : Nat) (hN : 2000 < N) (c : DCell) (hS : c.Slots.length ≤ 1000) (hc : c.More.length ≤ 1000) : jI N c = some (tD N c) ∧ (tD N c = true → 1 ≤ c.More.length ∧ (c.More.length - 1) % 4 = 0) := by
 obtain ⟨b, hb, hb2⟩ := pc N hN c hS hc
 unfold jI tD
 rw [qP N hN c hS hc, hb]
 refine ⟨by cases decide (c.Kind = 10) <;> cases b <;> rfl, fun h => ?_⟩
 rw [Bool.and_eq_true, decide_eq_true_eq] at h
 exact (hb2 h.2).2 h.1
theorem r7 (N : Nat) (hN : 5000 < N) (l : List Int) (hl : l.length ≤ 5000) (c : DCell) (hS : c.Slots.length ≤ 600) (hc : c.More.length ≤ 600) : gr N c l = some (bif tD N c then mj l c else (sc, [])) := by
 obtain ⟨h1, h2⟩ := AN N (by omega) c (by omega) (by omega)
 unfold gr
 rw [h1, bs]
 cases hw : tD N c
 ·rfl
 obtain ⟨g1, g2⟩ := h2 hw
 simp only [nt, cf, ct]
 have hcb : c.More[0]? = some (c.More.headD fR) := by
  cases hm : c.More with
  | nil => rw [hm] at g1; simp at g1
  | cons a r => rfl
 apply Sat.eq
 refine ce (fun k i (s : List (Int × Bool)) => finreg_Clean_l15 N l c k (i : Int) s) l.length (fun i s => ∀ x, (lk s x).getD false = decide (x ∈ l.take i)) _ ?_ ?_ N 0 [] (by omega) (by omega) (fun x => by simp; rfl)
 ·intro k i s hi h3 go
  show Sat (finreg_Clean_l15 N l c (k + 1) (i : Int) s) _
  rw [finreg_Clean_l15.eq_2, cy (by omega), ct, aY hi, bs, r64 (by omega) (by omega)]
  refine go _ fun x => ?_
  rw [wW, bg hi]
  by_cases e : l[i] = x
  ·rw [if_pos e, decide_eq_true (by simp [e])]; rfl
  rw [if_neg e, h3 x]
  by_cases hm : x ∈ l.take i
  ·rw [decide_eq_true hm, decide_eq_true (List.mem_append_left _ hm)]
  rw [decide_eq_false hm, decide_eq_false (by simp only [List.mem_append, List.mem_singleton]; exact fun h => h.elim hm fun h => e h.symm)]
 intro k s h3
 show Sat (finreg_Clean_l15 N l c (k + 1) _ s) _
 rw [List.take_length] at h3
 rw [finreg_Clean_l15.eq_2, ci (by omega), cf]
 unfold gL jU dj gK fx
 have h0 : aH c.More 0 = some (c.More.headD fR) := by
  have := jn c.More 0
  rw [hcb] at this; exact this
 rw [rF (by simp; omega), bs, h0, bs, bs, bs]
 have := uU N hN l s h3 c ⟨c.Kind, c.Shape, c.Flags, c.Age, [] ++ c.Slots, [c.More.headD fR]⟩ _ hcb (by omega) N 1 [c.More.headD fR] [] (by omega) g1 g2 (by simp) (by simp)
 have this' : finreg_entries_c1_l4 N (cm (fun x st => cF N c s ⟨c.Kind, c.Shape, c.Flags, c.Age, [] ++ c.Slots, [c.More.headD fR]⟩ x st)) c N 1 (none, ([c.More.headD fR], [])) = _ := this
 rw [this', bs]
 refine aP ?_
 have ht : c.More.take 1 = [c.More.headD fR] := by
  cases hm : c.More with
  | nil => rw [hm] at g1; simp at g1
  | cons a r => rfl
 unfold mj
 rw [ht]; rfl
def C9 (a : Int) : Bool := decide (a.tmod 2 = 0)
def Dw (a : Int) : Bool := decide (a.tmod 2 = 1)
def Dx (live : List Int) : List Int := live.filter C9 ++ live.filter Dw
def DB (ha hb : Int → Bool) (A B : List Int) (v w : DValue) : Bool :=
 bif !bn v || !bn w then decide (v = w)
 else decide (v.Kind = w.Kind) && (v.S.toList == w.S.toList) && (bif !decide (v.N ∈ A) || !decide (w.N ∈ B) then !decide (v.N ∈ A) && !decide (w.N ∈ B) && (ha v.N == hb w.N) else decide (A.idxOf v.N = B.idxOf w.N))
def zD (ha hb : Int → Bool) (A B : List Int) (x y : List DValue) : Bool := decide (x.length = y.length) && (x.zip y).all fun p => DB ha hb A B p.1 p.2
def Dg (ha hb : Int → Bool) (A B : List Int) (c d : DCell) : Bool := decide (c.Kind = d.Kind) && decide (c.Shape = d.Shape) && decide (c.Flags = d.Flags) && zD ha hb A B c.Slots d.Slots && zD ha hb A B c.More d.More
def DC (N : Nat) (a : DMemory) (x : List DValue) (A : List Int) (b : DMemory) (y : List DValue) (B : List Int) : Bool :=
 decide (A.length = B.length) && zD (bS a) (bS b) A B x y && (A.zip B).all fun p => Dg (bS a) (bS b) A B (gu N A (cU a p.1)) (gu N B (cU b p.2))
def D7 (kv : List (Int × Int)) (l : List Int) : Prop := ∀ x, lk kv x = if x ∈ l then some (l.idxOf x : Int) else none
structure SideOk (m : DMemory) (x : List DValue) (A : List Int) : Prop where
 small : Small m x
 w64 : W64 m
 x64 : ∀ v ∈ x, aK v.N
 len : A.length ≤ 1200
 nd : A.Nodup
 has : ∀ a ∈ A, bS m a = true
theorem xY {v w : DValue} (h : v.Kind = w.Kind) : bn v = bn w := by unfold bn; rw [h]
def C7 (p : Int → Bool) : List DValue → List Bool
 | k :: _ :: r => p k.N :: C7 p r
 | _ => []
def ey (c : DCell) : List Int := bv c ++ cn c
def Cc (N : Nat) (c : DCell) : Bool := (bI N c).getD false
def zF (N : Nat) (m : DMemory) (roots : List DValue) : Int :=
 bif (m.Young ++ m.Old).all (Cc N) then bif dO m ((m.Young ++ m.Old).flatMap ey ++ cw roots) then 0 else 50 else 51
def CV (f : List Int) (a : Int) : Int := 2 * ((f.idxOf a : Nat) : Int) + 2
def dw (ρ : Int → Int) (f : List Int) (v : DValue) : DValue := bif bn v && decide (v.N ∈ f) then ⟨v.Kind, ρ v.N, v.S⟩ else v
def iN (ρ : Int → Int) (f : List Int) (c : DCell) : DCell := ⟨c.Kind, c.Shape, c.Flags, c.Age, c.Slots.map (dw ρ f), c.More.map (dw ρ f)⟩
def D6 (kv : List (Int × Int)) (f : List Int) : Prop := ∀ x, lk kv x = if x ∈ f then some (CV f x) else none
def ke (N : Nat) (l : List Int) (c : DCell) : DCell := bif decide (c.Kind = 8) then gu N l c else bif decide (c.Kind = 10) then (mj l c).1 else c
def gy (l : List Int) (c : DCell) : List DValue := bif decide (c.Kind = 10) then (mj l c).2 else []
theorem mL (N : Nat) (l : List Int) (c : DCell) : (ke N l c).Slots.length = c.Slots.length ∧ (ke N l c).More.length + (gy l c).length ≤ c.More.length := by
 unfold ke gy
 by_cases h8 : c.Kind = 8
 ·rw [decide_eq_true h8, decide_eq_false (p := c.Kind = 10) (by omega)]
  have := wq N l c
  simp only [cond_true, cond_false, List.length_nil]; omega
 rw [decide_eq_false h8]
 by_cases h10 : c.Kind = 10
 ·rw [decide_eq_true h10]
  have := zn l (c.More.headD fR) (c.More.drop 1)
  rw [List.length_drop] at this
  unfold mj
  refine ⟨rfl, ?_⟩
  show (c.More.take 1 ++ cR l (c.More.drop 1)).length + (iZ l (c.More.headD fR) (c.More.drop 1)).length ≤ c.More.length
  rw [List.length_append, List.length_take]
  cases hm : c.More with
  | nil => rw [hm] at this; simp [cR, iZ]
  | cons a r => rw [hm] at this; simp only [List.length_cons] at this ⊢; omega
 rw [decide_eq_false h10]; simp
structure Coll where
 next : DMemory
 now : List DValue
 gone : List DValue
def zE (N : Nat) (m : DMemory) (roots : List DValue) (live f : List Int) : Coll :=
 ⟨⟨[], f.map fun a => iN (CV f) f (ke N live (cU m a))⟩, roots.map (dw (CV f) f), (f.flatMap fun a => gy live (cU m a)).map (dw (CV f) f)⟩
structure Mild (g : DValue → DValue) : Prop where
 z : g vZ = vZ
 kind : ∀ v, (g v).Kind = v.Kind
 num : ∀ v, v.Kind = 3 → g v = v
 may : ∀ v, iO v = true → iO (g v) = true
section
variable {g : DValue → DValue} (h : Mild g)
include h
theorem Mild.at_ (l : List DValue) (i : Nat) : iA (l.map g) i = g (iA l i) := by
 unfold iA
 simp only [List.getD, List.getElem?_map]
 cases l[i]? with
 | none => exact h.z.symm
 | some v => rfl
theorem Mild.numB (v : DValue) (a b : Int) : Go.Proofs.Ytmbaennilhdieaa.numB (g v) a b = Go.Proofs.Ytmbaennilhdieaa.numB v a b := by
 unfold Go.Proofs.Ytmbaennilhdieaa.numB
 by_cases h3 : v.Kind = 3
 ·rw [h.num v h3]
 rw [h.kind, decide_eq_false h3]; rfl
theorem Mild.noneB (v : DValue) (k : Int) : Go.Proofs.Ytmbaennilhdieaa.noneB (g v) k = Go.Proofs.Ytmbaennilhdieaa.noneB v k := by
 unfold Go.Proofs.Ytmbaennilhdieaa.noneB; rw [h.kind]
theorem Mild.ent2 : ∀ l : List DValue, iF (l.map g) = iF l
 | [] => rfl
 | [_] => rfl
 | k :: v :: r => by
  simp only [List.map_cons]
  simp only [fQ]
  rw [h.kind, h.kind, Mild.ent2 r]
theorem Mild.ent4 : ∀ l : List DValue, fu (l.map g) = fu l
 | [] => rfl
 | [_] => rfl
 | [_, _] => rfl
 | [_, _, _] => rfl
 | t :: v :: k :: s :: r => by
  simp only [List.map_cons]
  simp only [fP]
  rw [h.kind, h.kind, h.noneB, h.numB, Mild.ent4 r]
theorem Mild.slots (k sh fl : Int) (l : List DValue) : ik k sh fl (l.map g) = ik k sh fl l := by
 unfold ik
 simp only [List.length_map, h.at_, h.kind, h.noneB]
theorem Mild.more (k : Int) (l : List DValue) : ji k (l.map g) = ji k l := by
 unfold ji
 rw [← List.map_drop, h.ent2, h.ent4]
 simp only [List.length_map, h.at_, h.kind, h.noneB, h.numB]
theorem Mild.all {l : List DValue} (hl : l.all iO = true) : (l.map g).all iO = true := by
 rw [List.all_eq_true] at hl ⊢
 intro v hv
 obtain ⟨w, hw, rfl⟩ := List.mem_map.1 hv
 exact h.may w (hl w hw)
theorem Mild.right {c : DCell} (hc : dk c = true) : dk ⟨c.Kind, c.Shape, c.Flags, c.Age, c.Slots.map g, c.More.map g⟩ = true := by
 unfold dk at hc ⊢
 simp only [Bool.and_eq_true] at hc
 obtain ⟨h1, h2, h3, h4, h5⟩ := hc
 simp only [h.slots, h.more, h.all h2, h.all h3, h4, h5, Bool.and_true]
 simp only [Bool.and_eq_true]
 exact h1
end
theorem wU {v : DValue} (hb : bn v = true) : iO v = ((v.S.toList == (⟨#[]⟩ : ByteArray).toList) && decide (1 ≤ v.N)) := by
 have hk : v.Kind = 7 ∨ v.Kind = 9 := by
  unfold bn at hb
  rw [Bool.or_eq_true, decide_eq_true_eq, decide_eq_true_eq] at hb; exact hb
 unfold iO df
 rcases hk with hk | hk <;> rw [hk] <;> cases (v.S.toList == (⟨#[]⟩ : ByteArray).toList) <;> rfl
structure Ren (ρ : Int → Int) (f : List Int) : Prop where
 inj : ∀ a b, a ∈ f → b ∈ f → ρ a = ρ b → a = b
 pos : ∀ a ∈ f, 1 ≤ ρ a
theorem zc {ρ : Int → Int} {f : List Int} (hρ : Ren ρ f) : Mild (dw ρ f) where
 z := rfl
 kind v := by unfold dw; cases bn v && decide (v.N ∈ f) <;> rfl
 num v h := by
  have : bn v = false := by unfold bn; rw [h]; rfl
  unfold dw; rw [this]; rfl
 may v h := by
  cases hb : bn v && decide (v.N ∈ f) with
  | false => unfold dw; rw [hb]; exact h
  | true =>
   have hb0 := (Bool.and_eq_true _ _ ▸ hb : bn v = true ∧ decide (v.N ∈ f) = true)
   have hb1 := hb0.1
   have e : dw ρ f v = ⟨v.Kind, ρ v.N, v.S⟩ := by unfold dw; rw [hb]; rfl
   have hb2 : bn (⟨v.Kind, ρ v.N, v.S⟩ : DValue) = true := hb1
   rw [e, wU hb2]
   rw [wU hb1, Bool.and_eq_true] at h
   rw [Bool.and_eq_true]
   exact ⟨h.1, decide_eq_true (hρ.pos _ (of_decide_eq_true hb0.2))⟩
theorem xR {ρ : Int → Int} {f : List Int} (hρ : Ren ρ f) {c : DCell} (h : dk c = true) : dk (iN ρ f c) = true := (zc hρ).right h
theorem lJ {c : DCell} (h : dk c = true) : c.Slots.all iO = true ∧ c.More.all iO = true ∧ ji c.Kind c.More = true := by
 unfold dk at h
 simp only [Bool.and_eq_true] at h
 exact ⟨h.2.1, h.2.2.1, h.2.2.2.2⟩
theorem qN {c : DCell} (h : dk c = true) {m : List DValue} (h1 : m.all iO = true) (h2 : ji c.Kind m = true) : dk ⟨c.Kind, c.Shape, c.Flags, c.Age, c.Slots, m⟩ = true := by
 unfold dk at h ⊢
 simp only [Bool.and_eq_true] at h
 obtain ⟨g1, g2, g3, g4, g5⟩ := h
 simp only [g2, h1, g4, h2, Bool.and_true]
 simp only [Bool.and_eq_true]
 exact g1
theorem rC (p : Int → Bool) : ∀ {l : List DValue}, iF l = true → iF (dy p l) = true
 | [], _ => rfl
 | [_], h => by cases h
 | k :: v :: r, h => by
  rw [fQ] at h
  rw [Bool.and_eq_true] at h
  have ih := rC p h.2
  simp only [mi]
  cases p k.N
  ·exact ih
  show iF (k :: v :: dy p r) = true
  simp only [fQ]
  rw [h.1, ih]; rfl
theorem sM (lv : List Int) : ∀ {l : List DValue}, fu l = true → fu (cR lv l) = true
 | [], _ => rfl
 | [_], h => by cases h
 | [_, _], h => by cases h
 | [_, _, _], h => by cases h
 | t :: v :: k :: s :: r, h => by
  rw [fP] at h
  rw [Bool.and_eq_true, Bool.and_eq_true, Bool.and_eq_true, Bool.and_eq_true] at h
  obtain ⟨⟨⟨h1, h2⟩, h3, h4⟩, h5⟩ := h
  have ih := sM lv h5
  simp only [kR]
  cases decide (t.N ∈ lv)
  ·exact ih
  show fu (t :: v :: (bif decide (k.Kind = 7) && !decide (k.N ∈ lv) then fR else k) :: s :: cR lv r) = true
  simp only [fP]
  have h6 : noneB (bif decide (k.Kind = 7) && !decide (k.N ∈ lv) then fR else k) 7 = true := by
   cases decide (k.Kind = 7) && !decide (k.N ∈ lv)
   ·exact h3
   rfl
  rw [h1, h2, h6, h4, ih]; rfl
theorem rt (lv : List Int) {x : DValue} : ∀ {l : List DValue}, x ∈ cR lv l → x ∈ l ∨ x = fR
 | [], h => by simp [cR] at h
 | [_], h => by simp [cR] at h
 | [_, _], h => by simp [cR] at h
 | [_, _, _], h => by simp [cR] at h
 | t :: v :: k :: s :: r, h => by
  simp only [kR] at h
  rcases List.mem_append.1 h with h | h
  ·cases hd : decide (t.N ∈ lv) with
   | false => rw [hd] at h; cases h
   | true =>
    rw [hd] at h
    cases hk : decide (k.Kind = 7) && !decide (k.N ∈ lv) with
    | false => rw [hk] at h; simp at h; rcases h with h | h | h | h <;> subst h <;> simp
    | true => rw [hk] at h; simp at h; rcases h with h | h | h | h <;> subst h <;> simp
  rcases rt lv h with h | h
  ·exact .inl (by simp [h])
  exact .inr h
theorem zg : iO fR = true := by kernel_rfl
theorem yh (N : Nat) (lv : List Int) {c : DCell} (h : dk c = true) : dk (ke N lv c) = true := by
 obtain ⟨h1, h2, h3⟩ := lJ h
 unfold ke
 by_cases h8 : c.Kind = 8
 ·rw [mW h8, cond_true]
  unfold gu
  cases kS N c
  ·exact h
  refine qN h (m := dy (fun x => decide (x ∈ lv)) c.More) ?_ ?_
  ·rw [List.all_eq_true] at h2 ⊢
   exact fun v hv => h2 v (nK hv)
  rw [h8] at h3 ⊢
  exact rC _ h3
 rw [ej h8, cond_false]
 by_cases h10 : c.Kind = 10
 ·rw [mW h10, cond_true]
  rw [h10] at h3
  have h3' : (decide (1 ≤ c.More.length) && decide ((iA c.More 0).Kind = 7) && fu (c.More.drop 1)) = true := h3
  simp only [Bool.and_eq_true, decide_eq_true_eq] at h3'
  obtain ⟨⟨g1, g2⟩, g3⟩ := h3'
  refine qN h (m := c.More.take 1 ++ cR lv (c.More.drop 1)) ?_ ?_
  ·rw [List.all_eq_true] at h2 ⊢
   intro v hv
   rcases List.mem_append.1 hv with hv | hv
   ·exact h2 v (List.mem_of_mem_take hv)
   rcases rt lv hv with hv | rfl
   ·exact h2 v (List.mem_of_mem_drop hv)
   exact zg
  rw [h10]
  show (decide (1 ≤ (c.More.take 1 ++ cR lv (c.More.drop 1)).length) && decide ((iA (c.More.take 1 ++ cR lv (c.More.drop 1)) 0).Kind = 7) && fu ((c.More.take 1 ++ cR lv (c.More.drop 1)).drop 1)) = true
  obtain ⟨a, r, hr⟩ : ∃ a r, c.More = a :: r := by
   cases hm : c.More with
   | nil => rw [hm] at g1; simp at g1
   | cons a r => exact ⟨a, r, rfl⟩
  rw [hr] at g2 g3 ⊢
  have e1 : (a :: r).take 1 ++ cR lv ((a :: r).drop 1) = a :: cR lv r := rfl
  rw [e1]
  have g3' : fu r = true := g3
  have g2' : a.Kind = 7 := g2
  simp only [Bool.and_eq_true, decide_eq_true_eq]
  exact ⟨⟨by simp, g2'⟩, sM lv g3'⟩
 rw [ej h10, cond_false]; exact h
end Go.Proofs.Ytmbaennilhdieaa
namespace Go.Proofs.Ytmbaennilhdieaa
open Go.RowKit
structure MapG (g g' : Gr) (ρ : Int → Int) (S : Int → Prop) : Prop where
 inj : ∀ a b, S a → S b → ρ a = ρ b → a = b
 has : ∀ a, S a → g.has a = true ∧ g'.has (ρ a) = true
 leads : ∀ a, S a → g'.leads (ρ a) = (g.leads a).map ρ ∧ ∀ x ∈ g.leads a, S x
 opens : ∀ row a, (∀ x ∈ row, S x) → S a → g'.opens (row.map ρ) (ρ a) = (g.opens row a).map ρ ∧ ∀ x ∈ g.opens row a, S x
def cp {α : Type} (g : α → Nat) : List α → Nat
 | [] => 0
 | a :: l => g a + cp g l
theorem nV {α : Type} (g : α → Nat) : ∀ a b : List α, cp g (a ++ b) = cp g a + cp g b
 | [], b => by simp [cp]
 | c :: a, b => by rw [List.cons_append, cp, cp, nV g a b]; omega
theorem xH {α : Type} (g : α → Nat) {a b : List α} (h : a.Perm b) : cp g a = cp g b := by
 induction h with
 | nil => rfl
 | cons x _ ih => rw [cp, cp, ih]
 | swap x y l => rw [cp, cp, cp, cp]; omega
 | trans _ _ h1 h2 => rw [h1, h2]
theorem qJ (g : Int → Nat) : ∀ {l L : List Int}, l.Nodup → (∀ x ∈ l, x ∈ L) → cp g l ≤ cp g L
 | [], _, _, _ => Nat.zero_le _
 | a :: l, L, hn, hs => by
  obtain ⟨h1, h2⟩ := List.nodup_cons.1 hn
  have hp := List.perm_cons_erase (hs a (by simp))
  rw [xH g hp, cp, cp]
  have := qJ g (l := l) (L := L.erase a) h2 fun x hx => (List.mem_erase_of_ne (fun e : x = a => h1 (by rw [← e]; exact hx))).2 (hs x (by simp [hx]))
  omega
theorem kh {α β : Type} (g : β → Nat) (f : α → β) : ∀ l : List α, cp g (l.map f) = cp (fun x => g (f x)) l
 | [] => rfl
 | x :: l => by rw [List.map_cons, cp, cp, kh g f l]
theorem td {α : Type} {g h : α → Nat} : ∀ {l : List α}, (∀ x ∈ l, g x ≤ h x) → cp g l ≤ cp h l
 | [], _ => Nat.le_refl _
 | x :: l, hh => by
  rw [cp, cp]
  have h1 := hh x (by simp)
  have h2 := td (l := l) fun y hy => hh y (by simp [hy])
  omega
def wC (c : DCell) : Nat := 1 + c.Slots.length + c.More.length
def t8 (m : DMemory) : List Int := (List.range m.Young.length).map (fun i : Nat => 2 * (i : Int) + 1) ++ (List.range m.Old.length).map (fun i : Nat => 2 * (i : Int) + 2)
theorem xx (m : DMemory) (i : Nat) (h : i < m.Young.length) : cU m (2 * (i : Int) + 1) = m.Young[i] := by
 unfold cU dU
 rw [if_neg (by omega), if_pos (by omega), show ((2 * (i : Int) + 1 - 1) / 2).toNat = i by omega, List.getElem?_eq_getElem h]; rfl
theorem pZ (m : DMemory) (i : Nat) (h : i < m.Old.length) : cU m (2 * (i : Int) + 2) = m.Old[i] := by
 unfold cU dU
 rw [if_neg (by omega), if_neg (by omega), show ((2 * (i : Int) + 2 - 2) / 2).toNat = i by omega, List.getElem?_eq_getElem h]; rfl
theorem ry (m : DMemory) (i : Nat) : bS m (2 * (i : Int) + 1) = decide (i < m.Young.length) := by
 unfold bS dU
 rw [if_neg (by omega), if_pos (by omega), show ((2 * (i : Int) + 1 - 1) / 2).toNat = i by omega]
 by_cases h : i < m.Young.length
 ·rw [List.getElem?_eq_getElem h, decide_eq_true h]; rfl
 rw [List.getElem?_eq_none (by omega), decide_eq_false h]; rfl
theorem tI (m : DMemory) (i : Nat) : bS m (2 * (i : Int) + 2) = decide (i < m.Old.length) := by
 unfold bS dU
 rw [if_neg (by omega), if_neg (by omega), show ((2 * (i : Int) + 2 - 2) / 2).toNat = i by omega]
 by_cases h : i < m.Old.length
 ·rw [List.getElem?_eq_getElem h, decide_eq_true h]; rfl
 rw [List.getElem?_eq_none (by omega), decide_eq_false h]; rfl
theorem vu (m : DMemory) : (t8 m).map (cU m) = m.Young ++ m.Old := by
 unfold t8
 rw [List.map_append, List.map_map, List.map_map]
 congr 1
 ·refine List.ext_getElem (by simp) fun i h1 h2 => ?_
  simp only [List.getElem_map, List.getElem_range, Function.comp]
  exact xx m i h2
 refine List.ext_getElem (by simp) fun i h1 h2 => ?_
 simp only [List.getElem_map, List.getElem_range, Function.comp]
 exact pZ m i h2
theorem pu {m : DMemory} {a : Int} (h : bS m a = true) : (∃ i : Nat, i < m.Young.length ∧ a = 2 * (i : Int) + 1) ∨ ∃ i : Nat, i < m.Old.length ∧ a = 2 * (i : Int) + 2 := by
 rcases nM m a with ⟨h1, h2⟩ | ⟨k, h1, -⟩ | ⟨k, h1, -⟩
 ·unfold bS at h; rw [h2] at h; cases h
 ·subst h1; rw [ry] at h; exact .inl ⟨k, of_decide_eq_true h, rfl⟩
 subst h1; rw [tI] at h; exact .inr ⟨k, of_decide_eq_true h, rfl⟩
theorem uH {m : DMemory} {a : Int} (h : bS m a = true) : a ∈ t8 m := by
 unfold t8
 rcases pu h with ⟨i, h1, rfl⟩ | ⟨i, h1, rfl⟩
 ·exact List.mem_append_left _ (List.mem_map.2 ⟨i, List.mem_range.2 h1, rfl⟩)
 exact List.mem_append_right _ (List.mem_map.2 ⟨i, List.mem_range.2 h1, rfl⟩)
theorem xy {m : DMemory} {a : Int} (h : bS m a = true) : cU m a ∈ m.Young ++ m.Old := by
 unfold bS at h
 unfold cU
 cases hc : dU m a with
 | none => rw [hc] at h; cases h
 | some c => exact ld hc
def Ei : DMemory := ⟨[⟨11, 0, 0, 0, [], [⟨7, 2, ⟨#[]⟩⟩]⟩, ⟨11, 0, 0, 0, [], []⟩], [⟨11, 0, 0, 0, [], []⟩, ⟨11, 0, 0, 0, [], []⟩]⟩
def Ek : DMemory := ⟨[], [⟨10, 0, 0, 0, [⟨1, 0, ⟨#[]⟩⟩], [⟨7, 4, ⟨#[]⟩⟩, ⟨7, 6, ⟨#[]⟩⟩, ⟨7, 8, ⟨#[]⟩⟩, ⟨0, 0, ⟨#[]⟩⟩, ⟨3, 7, ⟨#[]⟩⟩]⟩, ⟨11, 0, 0, 0, [], []⟩, ⟨11, 0, 0, 0, [], []⟩, ⟨11, 0, 0, 0, [], []⟩]⟩
theorem mR {α : Type} {p : α → Bool} {l : List α} (h : l.all p = true) {x : α} (hx : x ∈ l) : p x = true := List.all_eq_true.1 h x hx
def DV (N : Nat) (m : DMemory) (roots : List DValue) (live f : List Int) : DMemory × List DValue × List DValue × Int :=
 bif decide (zF N m roots = 0) then ((zE N m roots live f).next, (zE N m roots live f).now, (zE N m roots live f).gone, 0) else (⟨[], []⟩, [], [], zF N m roots)
theorem nH {f : List Int} {a : Int} (h : a ∈ f) : f.idxOf a < f.length := List.idxOf_lt_length_iff.2 h
theorem kT {f : List Int} {a : Int} (h : a ∈ f) : f[f.idxOf a]'(nH h) = a := List.getElem_idxOf (nH h)
theorem AG (ρ : Int → Int) (f : List Int) (v : DValue) : bn (dw ρ f v) = bn v := xY (by unfold dw; cases bn v && decide (v.N ∈ f) <;> rfl)
theorem zd {ρ : Int → Int} {f : List Int} {v : DValue} (h1 : bn v = true) (h2 : v.N ∈ f) : dw ρ f v = ⟨v.Kind, ρ v.N, v.S⟩ := by
 unfold dw; rw [h1, decide_eq_true h2]; rfl
theorem qp {F : Nat → DValue → Bool} : ∀ {i : Nat} {l : List DValue} {j : Nat} {v : DValue}, l[j]? = some v → F (i + j) v = true → v.N ∈ pick F i l
 | i, w :: l, 0, v, h, hF => by
  simp only [List.getElem?_cons_zero, Option.some.injEq] at h
  subst h
  rw [fh]
  rw [Nat.add_zero] at hF
  rw [hF]; simp
 | i, w :: l, j + 1, v, h, hF => by
  simp only [List.getElem?_cons_succ] at h
  rw [fh]
  exact List.mem_append_right _ (qp (i := i + 1) h (by rw [show i + 1 + j = i + (j + 1) by omega]; exact hF))
 | i, [], j, v, h, _ => by simp at h
def kd (f : List Int) (l : List DValue) : Prop := ∀ v ∈ l, bn v = true → v.N ∈ f
theorem ut {f : List Int} {c : DCell} (h : ∀ x ∈ bv c, x ∈ f) : kd f c.Slots := fun v hv hb => by
 obtain ⟨j, hj, e⟩ := List.getElem_of_mem hv
 refine h _ (List.mem_append_left _ (qp (j := j) (by rw [List.getElem?_eq_getElem hj, e]) hb))
theorem qq {f : List Int} {c : DCell} (h : ∀ x ∈ bv c, x ∈ f) {j : Nat} {v : DValue} (hj : c.More[j]? = some v) (hw : eE c.Kind j = false) (hb : bn v = true) : v.N ∈ f :=
 h _ (List.mem_append_right _ (qp (j := j) hj (by rw [Nat.zero_add, hw, hb]; rfl)))
theorem vz {k : Int} (h8 : k ≠ 8) (h10 : k ≠ 10) (i : Nat) : eE k i = false := by
 unfold eE; rw [ej h8, ej h10]; rfl
theorem sP {lv f : List Int} (hlv : ∀ x, x ∈ lv ↔ x ∈ f) : ∀ {l : List DValue}, iF l = true → (∀ x ∈ opens (fun x => decide (x ∈ lv)) l, x ∈ f) → kd f (dy (fun x => decide (x ∈ lv)) l)
 | [], _, _ => fun v hv => by simp [dy] at hv
 | [_], h, _ => by cases h
 | k :: v :: r, h, ho => by
  rw [fQ] at h
  rw [Bool.and_eq_true] at h
  rw [kN] at ho
  have ih := sP hlv h.2 fun x hx => ho x (List.mem_append_right _ hx)
  intro w hw hb
  simp only [mi] at hw
  rcases List.mem_append.1 hw with hw | hw
  ·cases hd : decide (k.N ∈ lv) with
   | false => rw [hd] at hw; cases hw
   | true =>
    rw [hd] at hw
    simp only [cond_true, List.mem_cons, List.not_mem_nil, or_false] at hw
    rcases hw with rfl | rfl
    ·exact (hlv _).1 (of_decide_eq_true hd)
    exact ho _ (List.mem_append_left _ (by rw [hb, hd]; simp))
  exact ih w hw hb
theorem wY {lv f : List Int} (hlv : ∀ x, x ∈ lv ↔ x ∈ f) : ∀ {l : List DValue}, fu l = true → (∀ j v, l[4 * j + 1]? = some v → bn v = true → v.N ∈ f) → kd f (cR lv l)
 | [], _, _ => fun v hv => by simp [cR] at hv
 | [_], h, _ => by cases h
 | [_, _], h, _ => by cases h
 | [_, _, _], h, _ => by cases h
 | t :: a :: k :: s :: r, h, ho => by
  rw [fP] at h
  simp only [Bool.and_eq_true, decide_eq_true_eq] at h
  obtain ⟨⟨⟨h1, -⟩, h3, h4⟩, h5⟩ := h
  have ih := wY hlv h5 fun j v hj hb => ho (j + 1) v (by rw [show 4 * (j + 1) + 1 = 4 * j + 1 + 4 by omega]; simpa using hj) hb
  intro w hw hb
  simp only [kR] at hw
  rcases List.mem_append.1 hw with hw | hw
  ·cases hd : decide (t.N ∈ lv) with
   | false => rw [hd] at hw; cases hw
   | true =>
    rw [hd] at hw
    simp only [cond_true, List.mem_cons, List.not_mem_nil, or_false] at hw
    rcases hw with rfl | rfl | rfl | rfl
    ·exact (hlv _).1 (of_decide_eq_true hd)
    ·exact ho 0 w rfl hb
    ·cases hk : decide (k.Kind = 7) && !decide (k.N ∈ lv) with
     | true => rw [hk] at hb; cases hb
     | false =>
      rw [hk] at hb
      simp only [cond_false] at hb ⊢
      have hk7 : k.Kind = 7 := by
       unfold noneB at h3
       rw [Bool.or_eq_true, decide_eq_true_eq, decide_eq_true_eq] at h3
       rcases h3 with h3 | h3
       ·unfold bn at hb; rw [h3] at hb; cases hb
       exact h3
      rw [decide_eq_true hk7, Bool.true_and] at hk
      exact (hlv _).1 (by by_cases hm : k.N ∈ lv; exact hm; rw [decide_eq_false hm] at hk; cases hk)
    have : w.Kind = 3 := by
     unfold numB at h4
     rw [Bool.and_eq_true, decide_eq_true_eq] at h4; exact h4.1
    unfold bn at hb; rw [this] at hb; cases hb
  exact ih w hw hb
structure CellOk (N : Nat) (lv f : List Int) (c : DCell) : Prop where
 big : 2000 < N
 right : dk c = true
 slots : c.Slots.length ≤ 600
 more : c.More.length ≤ 600
 leads : ∀ x ∈ bv c, x ∈ f
 opens : ∀ x ∈ fw N c lv, x ∈ f
 mem : ∀ x, x ∈ lv ↔ x ∈ f
theorem wd {N : Nat} (hN : 2000 < N) {c : DCell} (h : dk c = true) (hS : c.Slots.length ≤ 600) (hM : c.More.length ≤ 600) : kS N c = decide (c.Kind = 8) := by
 unfold kS
 rw [kF N hN c (by omega) (by omega), h]
 cases decide (c.Kind = 8) <;> rfl
theorem we {N : Nat} (hN : 2000 < N) {c : DCell} (h : dk c = true) (hS : c.Slots.length ≤ 600) (hM : c.More.length ≤ 600) : tD N c = decide (c.Kind = 10) := by
 unfold tD
 rw [kF N hN c (by omega) (by omega), h]
 cases decide (c.Kind = 10) <;> rfl
section
variable {N : Nat} {ρ : Int → Int} {lv f : List Int} {c : DCell}
theorem vh : (ke N lv c).Kind = c.Kind ∧ (ke N lv c).Shape = c.Shape ∧ (ke N lv c).Flags = c.Flags ∧ (ke N lv c).Slots = c.Slots := by
 unfold ke gu
 cases decide (c.Kind = 8) <;> cases decide (c.Kind = 10) <;> cases kS N c <;> exact ⟨rfl, rfl, rfl, rfl⟩
theorem CellOk.new (hρ : Ren ρ f) (h : CellOk N lv f c) : dk (iN ρ f (ke N lv c)) = true ∧ (iN ρ f (ke N lv c)).Slots.length ≤ 600 ∧ (iN ρ f (ke N lv c)).More.length ≤ 600 ∧ (iN ρ f (ke N lv c)).Kind = c.Kind := by
 have h1 := mL N lv c
 have h2 := h.slots
 have h3 := h.more
 exact ⟨xR hρ (yh N lv h.right), by unfold iN; simp only [List.length_map]; omega, by unfold iN; simp only [List.length_map]; omega, vh.1⟩
theorem CellOk.ent2 (h : CellOk N lv f c) (h8 : c.Kind = 8) : iF c.More = true := by
 have := (lJ h.right).2.2
 rw [h8] at this; exact this
theorem CellOk.ent4 (h : CellOk N lv f c) (h10 : c.Kind = 10) : 1 ≤ c.More.length ∧ (iA c.More 0).Kind = 7 ∧ fu (c.More.drop 1) = true := by
 have := (lJ h.right).2.2
 rw [h10] at this
 have h3' : (decide (1 ≤ c.More.length) && decide ((iA c.More 0).Kind = 7) && fu (c.More.drop 1)) = true := this
 simp only [Bool.and_eq_true, decide_eq_true_eq] at h3'
 exact ⟨h3'.1.1, h3'.1.2, h3'.2⟩
theorem CellOk.wm (h : CellOk N lv f c) : kS N c = decide (c.Kind = 8) := wd h.big h.right h.slots h.more
theorem CellOk.fr (h : CellOk N lv f c) : tD N c = decide (c.Kind = 10) := we h.big h.right h.slots h.more
theorem CellOk.clC8 (h : CellOk N lv f c) (h8 : c.Kind = 8) : ke N lv c = ⟨c.Kind, c.Shape, c.Flags, c.Age, c.Slots, dy (fun x => decide (x ∈ lv)) c.More⟩ := by
 unfold ke gu
 rw [h.wm, decide_eq_true h8]; rfl
theorem CellOk.clC10 (h10 : c.Kind = 10) : ke N lv c = ⟨c.Kind, c.Shape, c.Flags, c.Age, c.Slots, c.More.take 1 ++ cR lv (c.More.drop 1)⟩ := by
 unfold ke
 rw [decide_eq_false (p := c.Kind = 8) (by omega), decide_eq_true h10]; rfl
theorem CellOk.clC0 (h8 : c.Kind ≠ 8) (h10 : c.Kind ≠ 10) : ke N lv c = c := by
 unfold ke
 rw [decide_eq_false h8, decide_eq_false h10]; rfl
theorem CellOk.inC (h : CellOk N lv f c) : kd f (ke N lv c).Slots ∧ kd f (ke N lv c).More := by
 refine ⟨by rw [vh.2.2.2]; exact ut h.leads, ?_⟩
 by_cases h8 : c.Kind = 8
 ·rw [h.clC8 h8]
  have ho := h.opens
  unfold fw at ho
  rw [h.wm, decide_eq_true h8, cond_true] at ho
  exact sP h.mem (h.ent2 h8) ho
 by_cases h10 : c.Kind = 10
 ·rw [CellOk.clC10 h10]
  obtain ⟨q1, q2, q3⟩ := h.ent4 h10
  obtain ⟨a, r, hr⟩ : ∃ a r, c.More = a :: r := by
   cases hm : c.More with
   | nil => rw [hm] at q1; simp at q1
   | cons a r => exact ⟨a, r, rfl⟩
  rw [hr] at q3
  have q3' : fu r = true := q3
  intro v hv hb
  have hv' : v = a ∨ v ∈ cR lv r := by
   have : v ∈ a :: cR lv r := by rw [hr] at hv; exact hv
   exact List.mem_cons.1 this
  rcases hv' with rfl | hv'
  ·refine qq h.leads (j := 0) (by rw [hr]; rfl) ?_ hb
   unfold eE; rw [h10]; rfl
  refine wY h.mem q3' (fun j w hj hw => qq h.leads (j := 4 * j + 2) (by rw [hr, show 4 * j + 2 = (4 * j + 1) + 1 by omega, List.getElem?_cons_succ]; exact hj) ?_ hw) v hv' hb
  unfold eE
  rw [h10]
  have e1 : (((4 * j + 2 : Nat) : Int) - 1).tmod 4 = 1 := by rw [Int.tmod_eq_emod_of_nonneg (by omega)]; omega
  have e2 : ((1 : Int)).tmod 2 = 1 := rfl
  rw [e1, e2]
  cases decide ((0 : Int) < ((4 * j + 2 : Nat) : Int)) <;> rfl
 rw [CellOk.clC0 h8 h10]
 intro v hv hb
 obtain ⟨j, hj, e⟩ := List.getElem_of_mem hv
 exact qq h.leads (j := j) (by rw [List.getElem?_eq_getElem hj, e]) (vz h8 h10 j) hb
end
end Go.Proofs.Ytmbaennilhdieaa
namespace Go.Proofs.Ytmbaennilhdieaa
open Go.RowKit
theorem yI : reachBytes ≤ 140737488355328 := by decide
theorem yH (m : DMemory) (roots : List DValue) (hm : kB m) (hr : BU (fun z => iS z) roots) : Bnd 140737488355328 m roots ∧ W64 m ∧ ∀ v ∈ roots, aK v.N := by
 have hb := yI
 obtain ⟨⟨y1, y2⟩, o1, o2⟩ := hm
 have hc : ∀ c ∈ m.Young ++ m.Old, nR c := fun c hc => (List.mem_append.1 hc).elim (y2 c) (o2 c)
 refine ⟨⟨Nat.le_trans y1 hb, Nat.le_trans o1 hb, Nat.le_trans hr.1 hb, fun c h => ?_⟩, fun c h v hv => ?_, fun v hv => (hr.2 v hv).2.1⟩
 ·obtain ⟨-, -, -, -, s, t⟩ := hc c h
  exact ⟨Nat.le_trans s.1 hb, Nat.le_trans t.1 hb⟩
 obtain ⟨-, -, -, -, s, t⟩ := hc c h
 rcases List.mem_append.1 hv with hv | hv
 ·exact (s.2 v hv).2.1
 exact (t.2 v hv).2.1
theorem ua {c : DCell} {v : DValue} (hv : v ∈ c.Slots ++ c.More) (hb : bn v = true) : v.N ∈ ey c := by
 unfold ey
 rcases List.mem_append.1 hv with hv | hv
 ·exact List.mem_append_left _ (ut (f := bv c) (fun x hx => hx) v hv hb)
 obtain ⟨j, hj, e⟩ := List.getElem_of_mem hv
 cases hw : eE c.Kind j with
 | false => exact List.mem_append_left _ (qq (f := bv c) (fun x hx => hx) (by rw [List.getElem?_eq_getElem hj, e]) hw hb)
 | true => exact List.mem_append_right _ (qp (j := j) (by rw [List.getElem?_eq_getElem hj, e]) (by rw [Nat.zero_add, hw, hb]; rfl))
theorem ph {p : Int → Bool} {x : Int} : ∀ {l : List DValue}, x ∈ opens p l → ∃ v ∈ l, bn v = true ∧ v.N = x
 | [], h => by simp [opens] at h
 | [_], h => by simp [opens] at h
 | k :: v :: l, h => by
  rw [kN] at h
  rcases List.mem_append.1 h with h | h
  ·cases hv : bn v && p k.N with
   | false => rw [hv] at h; cases h
   | true =>
    rw [hv] at h
    rw [Bool.and_eq_true] at hv
    exact ⟨v, by simp, hv.1, (List.mem_singleton.1 h).symm⟩
  obtain ⟨w, h1, h2⟩ := ph h
  exact ⟨w, by simp [h1], h2⟩
section
variable {N : Nat} {m : DMemory} {roots : List DValue} {live f : List Int}
end
def DN (N : Nat) (m : DMemory) (live f : List Int) : DMemory := ⟨[], f.map fun a => iN (CV f) f (ke N live (cU m a))⟩
def D1 (N : Nat) (m : DMemory) (live f : List Int) (a : Int) : DCell := iN (CV f) f (ke N live (cU m a))
theorem AX {N : Nat} {lv : List Int} {c : DCell} {v : DValue} (hv : v ∈ (ke N lv c).Slots ++ (ke N lv c).More) : v ∈ c.Slots ++ c.More ∨ v = fR := by
 unfold ke at hv
 cases h8 : decide (c.Kind = 8) with
 | true => rw [h8] at hv; exact .inl (wo hv)
 | false =>
  rw [h8] at hv
  cases h10 : decide (c.Kind = 10) with
  | false => rw [h10] at hv; exact .inl hv
  | true =>
   rw [h10] at hv
   have hv' : v ∈ c.Slots ++ (c.More.take 1 ++ cR lv (c.More.drop 1)) := hv
   rcases List.mem_append.1 hv' with hv' | hv'
   ·exact .inl (List.mem_append_left _ hv')
   rcases List.mem_append.1 hv' with hv' | hv'
   ·exact .inl (List.mem_append_right _ (List.mem_of_mem_take hv'))
   rcases rt lv hv' with hv' | hv'
   ·exact .inl (List.mem_append_right _ (List.mem_of_mem_drop hv'))
   exact .inr hv'
section
variable {N : Nat} {m : DMemory} {roots : List DValue} {live f : List Int}
end
theorem oy {F : Nat → DValue → Bool} {x : Int} (hB : ∀ i v, F i v = true → bn v = true) : ∀ {i : Nat} {l : List DValue}, x ∈ pick F i l → ∃ v ∈ l, bn v = true ∧ v.N = x
 | _, [], h => by cases h
 | i, v :: l, h => by
  rw [fh] at h
  rcases List.mem_append.1 h with h | h
  ·cases hf : F i v with
   | false => rw [hf] at h; cases h
   | true => rw [hf] at h; exact ⟨v, by simp, hB i v hf, (List.mem_singleton.1 h).symm⟩
  obtain ⟨w, g1, g2⟩ := oy hB h
  exact ⟨w, by simp [g1], g2⟩
theorem ym {c : DCell} {x : Int} (h : x ∈ ey c) : ∃ v ∈ c.Slots ++ c.More, bn v = true ∧ v.N = x := by
 unfold ey bv cn at h
 rcases List.mem_append.1 h with h | h
 ·rcases List.mem_append.1 h with h | h
  ·obtain ⟨v, g1, g2⟩ := oy (fun _ _ h => h) h; exact ⟨v, List.mem_append_left _ g1, g2⟩
  obtain ⟨v, g1, g2⟩ := oy (fun i v h => ((Bool.and_eq_true _ _).mp h).2) h; exact ⟨v, List.mem_append_right _ g1, g2⟩
 obtain ⟨v, g1, g2⟩ := oy (fun i v h => ((Bool.and_eq_true _ _).mp h).2) h; exact ⟨v, List.mem_append_right _ g1, g2⟩
section
variable {N : Nat} {m : DMemory} {roots : List DValue} {live f : List Int}
end
end Go.Proofs.Ytmbaennilhdieaa
namespace Go.Proofs.Ytmbaennilhdieaa
open Go.RowKit
def bf (n : Nat) : List Int := (List.range n).map fun i : Nat => 2 * (i : Int) + 2
theorem yd (n : Nat) : (bf n).Pairwise (· < ·) := by
 unfold bf
 rw [List.pairwise_map]
 exact List.pairwise_lt_range.imp fun h => by omega
theorem px {n i : Nat} (h : i < (bf n).length) : (bf n)[i] = 2 * (i : Int) + 2 := by simp [bf]
def jh (g : Gr) (live : List Int) : List Int → List Int → List Int
 | row, [] => row
 | row, a :: avs => jh g live (dS g.has row (g.opens live a)) avs
inductive MOrd (g : Gr) (olds kept : List Int) : List Int → List Int → Prop
 | done {row : List Int} : jh g (olds ++ row) row (kept ++ row) = row → MOrd g olds kept row row
 | step {row r1 r : List Int} : jh g (olds ++ row) row (kept ++ row) ≠ row → Thr g (jh g (olds ++ row) row (kept ++ row)) row.length r1 → MOrd g olds kept r1 r → MOrd g olds kept row r
structure IsMinor (g : Gr) (olds kept start b l : List Int) : Prop where
 strong : Thr g (dS g.has [] start) 0 b
 all : MOrd g olds kept b l
theorem km (g : Gr) (live : List Int) : ∀ (row avs : List Int), ∃ t, jh g live row avs = row ++ t
 | row, [] => ⟨[], by simp [jh]⟩
 | row, a :: avs => by
  obtain ⟨t, h1, -⟩ := ie g.has row (g.opens live a)
  obtain ⟨t2, h2⟩ := km g live (dS g.has row (g.opens live a)) avs
  exact ⟨t ++ t2, by unfold jh; rw [h2, h1, List.append_assoc]⟩
theorem so (g : Gr) (live : List Int) : ∀ (row avs bs : List Int), jh g live row (avs ++ bs) = jh g live (jh g live row avs) bs
 | _, [], _ => rfl
 | row, a :: avs, bs => by
  show jh g live _ (avs ++ bs) = _
  rw [so g live _ avs bs]; rfl
theorem sq {g : Gr} {live : List Int} : ∀ {row avs : List Int}, jh g live row avs = row → ∀ a ∈ avs, ∀ x ∈ g.opens live a, g.has x = true → x ∈ row
 | row, b :: avs, h, a, ha, x, hx, hh => by
  have h1 : dS g.has row (g.opens live b) = row := by
   obtain ⟨t, e1, -⟩ := ie g.has row (g.opens live b)
   obtain ⟨t2, e2⟩ := km g live (dS g.has row (g.opens live b)) avs
   have h3 : row ++ t ++ t2 = row := by rw [← e1, ← e2]; exact h
   have h4 := congrArg List.length h3
   simp only [List.length_append] at h4
   have h5 : t = [] := List.eq_nil_of_length_eq_zero (by omega)
   rw [e1, h5, List.append_nil]
  rcases List.mem_cons.1 ha with e | ha
  ·subst e; have := oI row _ hx hh; rwa [h1] at this
  refine sq (avs := avs) ?_ a ha x hx hh
  unfold jh at h; rw [h1] at h; exact h
theorem MOrd.app {g : Gr} {olds kept row r : List Int} (h : MOrd g olds kept row r) : ∃ t, r = row ++ t := by
 induction h with
 | done _ => exact ⟨[], by simp⟩
 | step _ h1 _ ih =>
  rename_i row r1 _ _ _
  obtain ⟨t, rfl⟩ := ih
  obtain ⟨t1, rfl⟩ := h1.app
  obtain ⟨t2, h2⟩ := km g (olds ++ row) row (kept ++ row)
  exact ⟨t2 ++ t1 ++ t, by rw [h2]; simp [List.append_assoc]⟩
theorem MOrd.closed {g : Gr} {olds kept row r : List Int} (h : MOrd g olds kept row r) (hc : CloG g row row.length) : CloG g r r.length ∧ ∀ a ∈ kept ++ r, ∀ x ∈ g.opens (olds ++ r) a, g.has x = true → x ∈ r := by
 induction h with
 | done hp => exact ⟨hc, sq hp⟩
 | step _ h1 _ ih =>
  rename_i row _ _ _ _
  obtain ⟨t, e⟩ := km g (olds ++ row) row (kept ++ row)
  refine ih (h1.clo (by rw [e, List.length_append]; omega) ?_)
  rw [e]; exact hc.app (Nat.le_refl _)
theorem IsMinor.start {g : Gr} {olds kept start b l : List Int} (h : IsMinor g olds kept start b l) {x : Int} (hx : x ∈ start) (hh : g.has x = true) : x ∈ l := by
 obtain ⟨t, e⟩ := h.strong.app
 obtain ⟨t2, e2⟩ := h.all.app
 rw [e2, e]
 exact List.mem_append_left _ (List.mem_append_left _ (oI _ _ hx hh))
theorem IsMinor.closed {g : Gr} {olds kept start b l : List Int} (h : IsMinor g olds kept start b l) : (∀ a ∈ l, ∀ x ∈ g.leads a, g.has x = true → x ∈ l) ∧ ∀ a ∈ kept ++ l, ∀ x ∈ g.opens (olds ++ l) a, g.has x = true → x ∈ l := by
 obtain ⟨h1, h2⟩ := h.all.closed (h.strong.clo (Nat.zero_le _) fun i _ _ hi => absurd hi (by omega))
 refine ⟨fun a ha x hx hh => ?_, h2⟩
 obtain ⟨i, hi, e⟩ := List.getElem_of_mem ha
 exact h1 i a x hi (by rw [List.getElem?_eq_getElem hi, e]) hx hh
def yB (a : Int) : Bool := decide (0 < a) && decide (a.tmod 2 = 1)
def xZ (N : Nat) (m : DMemory) : Gr := ⟨yB, fun a => bv (cU m a), fun live a => fw N (cU m a) live⟩
theorem iW (N : Nat) (a : Int) : cY N a = some (yB a) := by
 unfold cY yB
 cases decide (0 < a) <;> cases decide (a.tmod 2 = 1) <;> rfl
theorem sY {a : Int} (h : yB a = true) : ∃ k : Nat, a = 2 * (k : Int) + 1 := by
 unfold yB at h
 rw [Bool.and_eq_true, decide_eq_true_eq, decide_eq_true_eq] at h
 have := uo (a := a) (by omega)
 exact ⟨((a - 1) / 2).toNat, by omega⟩
theorem sX (k : Nat) : yB (2 * (k : Int) + 1) = true := by
 unfold yB
 rw [uo (by omega), decide_eq_true (by omega), decide_eq_true (by omega)]; rfl
theorem nQ (k : Nat) : yB (2 * (k : Int) + 2) = false := by
 unfold yB
 rw [uo (by omega), decide_eq_false (p := (2 * (k : Int) + 2) % 2 = 1) (by omega), Bool.and_false]
structure Mt (m : DMemory) (met : List Int) (seen : List (Int × Bool)) : Prop where
 nd : met.Nodup
 yng : ∀ x ∈ met, yB x = true
 has : ∀ x ∈ met, bS m x = true
 mem : ∀ x, (lk seen x).getD false = decide (x ∈ met)
theorem Mt.len {m : DMemory} {roots : List DValue} (hs : Small m roots) {met : List Int} {seen : List (Int × Bool)} (h : Mt m met seen) : met.length ≤ 1200 := uE 1200 h.nd fun x hx => ⟨by have := uS (h.has x hx); omega, by have := xb hs (h.has x hx); omega⟩
theorem Mt.nil (m : DMemory) : Mt m [] [] := ⟨List.nodup_nil, by simp, by simp, fun x => by simp; rfl⟩
theorem sv (N : Nat) {m : DMemory} {roots : List DValue} (hs : Small m roots) (kp : List Int) {met : List Int} {seen : List (Int × Bool)} (nx : Int) (h : Mt m met seen) (a : Int) (ha : yB a = true → bS m a = true) : ∃ seen', br N ⟨m, kp, met, seen, nx⟩ a = some ⟨m, kp, dS yB met [a], seen', nx⟩ ∧ Mt m (dS yB met [a]) seen' := by
 have hlen := h.len hs
 unfold br
 rw [iW, bs]
 dsimp only
 rw [h.mem a]
 have hl : dS yB met [a] = bif yB a && !decide (a ∈ met) then met ++ [a] else met := rfl
 rw [hl]
 cases hy : yB a with
 | false => exact ⟨seen, rfl, h⟩
 | true =>
  by_cases hm : a ∈ met
  ·rw [decide_eq_true hm]; exact ⟨seen, rfl, h⟩
  rw [decide_eq_false hm]
  refine ⟨se seen a true, ?_, ?_⟩
  ·simp only [ct, bs, nf]
   rw [rF (by simp; omega)]; rfl
  refine ⟨List.nodup_append.2 ⟨h.nd, by simp, fun x hx y hy e => by rw [List.mem_singleton] at hy; subst hy; subst e; exact hm hx⟩, fun x hx => ?_, fun x hx => ?_, fun x => ?_⟩
  ·rcases List.mem_append.1 hx with hx | hx
   ·exact h.yng x hx
   rw [List.mem_singleton] at hx; subst hx; exact hy
  ·rcases List.mem_append.1 hx with hx | hx
   ·exact h.has x hx
   rw [List.mem_singleton] at hx; subst hx; exact ha hy
  rw [wW]
  show _ = decide (x ∈ met ++ [a])
  by_cases e : a = x
  ·rw [if_pos e, decide_eq_true (by simp [e])]; rfl
  rw [if_neg e, h.mem x]
  exact dp ⟨fun hx => List.mem_append_left _ hx, fun hx => (List.mem_append.1 hx).elim id fun hx => absurd (List.mem_singleton.1 hx).symm e⟩
theorem pm {ρ : Type} (N : Nat) {m : DMemory} {roots : List DValue} (hs : Small m roots) (l : List Int) (hl : l.length < N) (hl2 : l.length ≤ 5000) (hh : ∀ x ∈ l, yB x = true → bS m x = true) (L : Nat → Int → List DCell → List DCell → List Int → List Int → List (Int × Bool) → Int → Option ρ) (K : List DCell → List DCell → List Int → List Int → List (Int × Bool) → Int → Option ρ)
  (hrec : ∀ k i Y O kp met seen nx, L (k + 1) i Y O kp met seen nx = bif decide (i < (l.length : Int)) then ((aH l i).bind fun x => (br N (⟨(⟨Y, O⟩ : DMemory), kp, met, seen, nx⟩ : DMeeter) x).bind fun y => bD (aK (i + 1)) (L k (i + 1) y.m_.Young y.m_.Old y.kept_ y.met_ y.seen_ y.next_)) else K Y O kp met seen nx)
  (kp : List Int) {met : List Int} {seen : List (Int × Bool)} (nx : Int) (h : Mt m met seen) (R : ρ → Prop) (hk : ∀ seen', Mt m (dS yB met l) seen' → Sat (K m.Young m.Old kp (dS yB met l) seen' nx) R) : Sat (L N 0 m.Young m.Old kp met seen nx) R := by
 refine ce (fun k i (s : List Int × List (Int × Bool)) => L k (i : Int) m.Young m.Old kp s.1 s.2 nx) l.length (fun i s => Mt m s.1 s.2 ∧ s.1 = dS yB met (l.take i)) R ?_ ?_ N 0 (met, seen) (by omega) (by omega) ⟨h, rfl⟩
 ·rintro k i ⟨mt, sn⟩ hi ⟨h1, h2⟩ go
  simp only at h1 h2
  show Sat (L (k + 1) (i : Int) m.Young m.Old kp mt sn nx) R
  obtain ⟨sn', e1, e2⟩ := sv N hs kp nx h1 l[i] (hh _ (List.getElem_mem _))
  have e1' : br N ⟨⟨m.Young, m.Old⟩, kp, mt, sn, nx⟩ l[i] = some ⟨m, kp, dS yB mt [l[i]], sn', nx⟩ := e1
  rw [hrec, cy (by omega), ct, aY hi, bs, e1', bs, r64 (by omega) (by omega)]
  exact go (dS yB mt [l[i]], sn') ⟨e2, by show dS yB mt [l[i]] = _; rw [bg hi, oH, ← h2]⟩
 rintro k ⟨mt, sn⟩ ⟨h1, h2⟩
 simp only [List.take_length] at h1 h2
 show Sat (L (k + 1) _ m.Young m.Old kp mt sn nx) R
 rw [hrec, ci (by omega), cf]
 subst h2
 exact hk sn h1
theorem jl (N : Nat) {m : DMemory} {roots : List DValue} (hs : Small m roots) (kp met : List Int) (seen : List (Int × Bool)) (nx : Int) {a : Int} (ha : bS m a = true) : be N ⟨m, kp, met, seen, nx⟩ a = some (cU m a) := by
 have hy := hs.young
 have ho := hs.old
 unfold be
 rw [iW, bs]
 rcases pu ha with ⟨i, hi, rfl⟩ | ⟨i, hi, rfl⟩
 ·rw [sX, ct, pH (by omega), show (2 * (i : Int) + 1) / 2 = i by omega, r64 (by omega) (by omega), xx m i hi, aY hi, bs]
 rw [nQ, cf, pH (by omega), show (2 * (i : Int) + 2) / 2 = (i : Int) + 1 by omega, r64 (by omega) (by omega), r64 (by omega) (by omega), show (i : Int) + 1 - 1 = i by omega, pZ m i hi, aY hi, bs]
def Whole (m : DMemory) : Prop := ∀ a, bS m a = true → ∀ x ∈ ey (cU m a), bS m x = true
theorem Whole.leads {m : DMemory} (h : Whole m) {a : Int} (ha : bS m a = true) : ∀ x ∈ bv (cU m a), bS m x = true := fun x hx => h a ha x (List.mem_append_left _ hx)
theorem Whole.opens {m : DMemory} (h : Whole m) {N : Nat} {live : List Int} {a : Int} (ha : bS m a = true) : ∀ x ∈ fw N (cU m a) live, bS m x = true := fun x hx => by
 unfold fw at hx
 cases hw : kS N (cU m a) with
 | false => rw [hw] at hx; cases hx
 | true =>
  rw [hw] at hx
  obtain ⟨v, hv, hb, rfl⟩ := ph hx
  exact h a ha _ (ua (List.mem_append_right _ hv) hb)
theorem nj (N : Nat) (hN : 5000 < N) {m : DMemory} {roots : List DValue} (hs : Small m roots) (hw : Whole m) (kp : List Int) {met : List Int} {seen : List (Int × Bool)} (h : Mt m met seen) (k : Nat) (hk : k ≤ met.length) :
  Sat (cr N ⟨m, kp, met, seen, (k : Int)⟩) fun r => ∃ seen', r = ⟨m, kp, r.met_, seen', (r.met_.length : Int)⟩ ∧ Mt m r.met_ seen' ∧ Thr (xZ N m) met k r.met_ := by
 unfold cr
 refine rn (fun f (s : List Int × List (Int × Bool) × Nat) => minor_meeter_through_l7 N f m.Young m.Old kp s.1 s.2.1 (s.2.2 : Int)) (fun s => 1300 - s.2.2) (fun s => Mt m s.1 s.2.1 ∧ s.2.2 ≤ s.1.length ∧ ∀ r, Thr (xZ N m) s.1 s.2.2 r → Thr (xZ N m) met k r) _ ?_ N (met, seen, k) (by show 1300 - k < N; omega) ⟨h, hk, fun _ h => h⟩
 rintro f ⟨mt, sn, j⟩ ⟨h1, h3, h4⟩ go
 show Sat (minor_meeter_through_l7 N (f + 1) m.Young m.Old kp mt sn (j : Int)) _
 simp only at h1 h3 h4
 have hlen := h1.len hs
 rw [minor_meeter_through_l7.eq_2]
 by_cases hj : j < mt.length
 ·have hh := h1.has _ (List.getElem_mem hj)
  have hsm := hs.at_ mt[j]
  have e1 : be N ⟨⟨m.Young, m.Old⟩, kp, mt, sn, (j : Int)⟩ mt[j] = some (cU m mt[j]) := jl N hs kp mt sn (j : Int) hh
  have hll := jm (cU m mt[j])
  rw [cy (by omega), ct, aY hj, bs, e1, bs, nG N (by omega) _ (by omega) (by omega), bs]
  refine pm N hs (bv (cU m mt[j])) (by omega) (by omega) (fun x hx _ => hw.leads hh x hx) (minor_meeter_through_l31 N (minor_meeter_through_l7 N f) (bv (cU m mt[j]))) (cG N (minor_meeter_through_l7 N f)) (fun _ _ _ _ _ _ _ _ => by rw [minor_meeter_through_l31.eq_2]) kp (j : Int) h1 _ fun sn' h5 => ?_
  unfold cG
  rw [r64 (by omega) (by omega)]
  have hge : mt.length ≤ (dS yB mt (bv (cU m mt[j]))).length := by
   obtain ⟨t, e, -⟩ := ie yB mt (bv (cU m mt[j]))
   rw [e, List.length_append]; omega
  exact go (dS yB mt (bv (cU m mt[j])), sn', j + 1) (by show 1300 - (j + 1) < 1300 - j; omega) ⟨h5, by show j + 1 ≤ (dS yB mt (bv (cU m mt[j]))).length; omega, fun r hr => h4 r (.step (List.getElem?_eq_getElem hj) hr)⟩
 have : j = mt.length := by omega
 subst this
 rw [ci (by omega), cf]
 exact aP ⟨sn, rfl, h1, h4 _ (.done (Nat.le_refl _))⟩
theorem rj (N : Nat) (hN : 5000 < N) {m : DMemory} {roots : List DValue} (hs : Small m roots) (kp : List Int) {met : List Int} {seen : List (Int × Bool)} (nx : Int) (h : Mt m met seen) : cW N ⟨m, kp, met, seen, nx⟩ = some (bf m.Old.length ++ met) := by
 apply Sat.eq
 have ho := hs.old
 have hlen := h.len hs
 unfold cW
 refine ce (fun k i (s : List Int) => minor_meeter_live_l9 N ⟨m, kp, met, seen, nx⟩ k s (i : Int)) m.Old.length (fun i s => s = bf i) _ ?_ ?_ N 0 [] (by omega) (by omega) rfl
 ·rintro k i s hi rfl go
  show Sat (minor_meeter_live_l9 N ⟨m, kp, met, seen, nx⟩ (k + 1) (bf i) (i : Int)) _
  have hev : (bf i).length = i := by unfold bf; simp
  rw [minor_meeter_live_l9.eq_2, cy (by show (i : Int) < (m.Old.length : Int); omega), ct, r64 (by omega) (by omega), r64 (by omega) (by omega), rF (by simp; omega), r64 (by omega) (by omega)]
  refine go _ ?_
  unfold bf
  rw [List.range_succ, List.map_append]; rfl
 rintro k s rfl
 show Sat (minor_meeter_live_l9 N ⟨m, kp, met, seen, nx⟩ (k + 1) _ _) _
 have hev : (bf m.Old.length).length = m.Old.length := by unfold bf; simp
 rw [minor_meeter_live_l9.eq_2, ci (by show (m.Old.length : Int) ≤ (m.Old.length : Int); omega), cf]
 unfold eU
 dsimp only
 rw [rF (by omega)]
 exact aP rfl
theorem ve (N : Nat) (a b : List Int) (ha : a.length ≤ 100000) (hb : b.length ≤ 100000) : fK N a b = some (a ++ b) := by
 unfold fK gB il fd f6
 rw [r64 (by omega) (by omega), ci (a := 0 + (a.length : Int)) (by omega), cf, r64 (by omega) (by omega), ci (a := 0 + (a.length : Int) + (b.length : Int)) (by omega), cf, r64 (by omega) (by omega), r64 (by omega) (by omega), cf]
 by_cases h : 0 < a.length + b.length
 ·rw [cy (by omega), ct, iC ⟨by omega, by omega⟩, bs, rF (by simp; omega), rF (by simp; omega)]; rfl
 rw [ci (by omega), cf, bs, rF (by simp; omega), rF (by simp; omega)]; rfl
theorem vX (N : Nat) (hN : 5000 < N) {m : DMemory} {roots : List DValue} (hs : Small m roots) (hw : Whole m) (kp : List Int) (hk : ∀ x ∈ kp, bS m x = true) (hkl : kp.length ≤ 1200) {met : List Int} {seen : List (Int × Bool)} (nx : Int) (h : Mt m met seen) :
  Sat (cV N ⟨m, kp, met, seen, nx⟩) fun r => ∃ seen', r = (decide ((met.length : Int) < (r.2.met_.length : Int)), ⟨m, kp, r.2.met_, seen', nx⟩) ∧ Mt m r.2.met_ seen' ∧ r.2.met_ = jh (xZ N m) (bf m.Old.length ++ met) met (kp ++ met) := by
 have hlen := h.len hs
 have ho := hs.old
 have hev : (bf m.Old.length).length = m.Old.length := by unfold bf; simp
 unfold cV
 rw [rj N hN hs kp nx h, bs]
 dsimp only
 rw [ve N kp met (by omega) (by omega), bs]
 have hL : (bf m.Old.length ++ met).length ≤ 5000 := by rw [List.length_append]; omega
 have hC : (kp ++ met).length ≤ 2400 := by rw [List.length_append]; omega
 generalize hlv : bf m.Old.length ++ met = live at *
 have hcm : ∀ x ∈ kp ++ met, bS m x = true := fun x hx => (List.mem_append.1 hx).elim (hk x) (h.has x)
 generalize hcc : kp ++ met = cs at *
 refine ce (fun k i (s : List Int × List (Int × Bool)) => minor_meeter_open_l21 N ⟨m, kp, met, seen, nx⟩ cs live k (i : Int) m.Young m.Old kp s.1 s.2 nx) cs.length (fun i s => Mt m s.1 s.2 ∧ s.1 = jh (xZ N m) live met (cs.take i)) _ ?_ ?_ N 0 (met, seen) (by omega) (by omega) ⟨h, rfl⟩
 ·rintro k i ⟨mt, sn⟩ hi ⟨h1, h2⟩ go
  simp only at h1 h2
  show Sat (minor_meeter_open_l21 N ⟨m, kp, met, seen, nx⟩ cs live (k + 1) (i : Int) m.Young m.Old kp mt sn nx) _
  have hh := hcm _ (List.getElem_mem hi)
  have hsm := hs.at_ cs[i]
  have e1 : be N ⟨⟨m.Young, m.Old⟩, kp, mt, sn, nx⟩ cs[i] = some (cU m cs[i]) := jl N hs kp mt sn nx hh
  have hol := vU N (cU m cs[i]) live
  rw [minor_meeter_open_l21.eq_2, cy (by omega), ct, aY hi, bs, e1, bs, vR N hN live (by omega) _ (by omega) (by omega), bs]
  refine pm N hs (fw N (cU m cs[i]) live) (by omega) (by omega) (fun x hx _ => hw.opens hh x hx) (minor_meeter_open_l43 N (minor_meeter_open_l21 N ⟨m, kp, met, seen, nx⟩ cs live k) ⟨m, kp, met, seen, nx⟩ cs (i : Int) (fw N (cU m cs[i]) live) live) (du N (minor_meeter_open_l21 N ⟨m, kp, met, seen, nx⟩ cs live k) ⟨m, kp, met, seen, nx⟩ cs (i : Int) live) (fun _ _ _ _ _ _ _ _ => by rw [minor_meeter_open_l43.eq_2]) kp nx h1 _ fun sn' h5 => ?_
  unfold du
  rw [r64 (by omega) (by omega)]
  refine go (dS yB mt (fw N (cU m cs[i]) live), sn') ⟨h5, ?_⟩
  show dS yB mt (fw N (cU m cs[i]) live) = _
  rw [bg hi, so, ← h2]; rfl
 rintro k ⟨mt, sn⟩ ⟨h1, h2⟩
 simp only [List.take_length] at h1 h2
 show Sat (minor_meeter_open_l21 N ⟨m, kp, met, seen, nx⟩ cs live (k + 1) _ m.Young m.Old kp mt sn nx) _
 rw [minor_meeter_open_l21.eq_2, ci (by omega), cf]
 unfold eT
 exact aP ⟨sn, rfl, h1, h2⟩
def qK (m : DMemory) (roots : List DValue) (kept : List Int) : List Int := cw roots ++ kept.flatMap fun a => bv (cU m a)
theorem rm (N : Nat) (v : DValue) : eu N v = some (v.N, bn v) := by
 unfold eu
 rw [uO, bs]
theorem xU (N : Nat) (hN : 5000 < N) {m : DMemory} {roots : List DValue} (hs : Small m roots) (hw : Whole m) (hr : ∀ x ∈ cw roots, bS m x = true) (kept : List Int) (hk : ∀ x ∈ kept, bS m x = true) (hkl : kept.length ≤ 1200) :
  Sat (fY N m roots kept) fun r => ∃ seen nx b, r = ⟨m, kept, r.met_, seen, nx⟩ ∧ Mt m r.met_ seen ∧ IsMinor (xZ N m) (bf m.Old.length) kept (qK m roots kept) b r.met_ := by
 have hrl := hs.roots
 -- the passes
 have passes : ∀ (b : List Int) (seen : List (Int × Bool)), Mt m b seen → Thr (xZ N m) (dS yB [] (qK m roots kept)) 0 b → Sat (minor_all_l104 N N m.Young m.Old kept b seen (b.length : Int)) fun r => ∃ seen nx b, r = ⟨m, kept, r.met_, seen, nx⟩ ∧ Mt m r.met_ seen ∧ IsMinor (xZ N m) (bf m.Old.length) kept (qK m roots kept) b r.met_ := by
  intro b seen h hb
  have h0 := h.len hs
  refine rn (fun f (s : List Int × List (Int × Bool)) => minor_all_l104 N f m.Young m.Old kept s.1 s.2 (s.1.length : Int)) (fun s => 1300 - s.1.length) (fun s => Mt m s.1 s.2 ∧ ∀ r, MOrd (xZ N m) (bf m.Old.length) kept s.1 r → MOrd (xZ N m) (bf m.Old.length) kept b r) _ ?_ N (b, seen) (by show 1300 - b.length < N; omega) ⟨h, fun _ h => h⟩
  rintro f ⟨mt, sn⟩ ⟨h1, h2⟩ go
  simp only at h1 h2
  show Sat (minor_all_l104 N (f + 1) m.Young m.Old kept mt sn (mt.length : Int)) _
  have hlen := h1.len hs
  obtain ⟨⟨p, x⟩, e0, sn', e1, h3, h4⟩ := vX N hN hs hw kept hk hkl (mt.length : Int) h1
  simp only at e1 h3 h4
  obtain ⟨e1, e2⟩ := Prod.mk.inj e1
  obtain ⟨t, ht⟩ := km (xZ N m) (bf m.Old.length ++ mt) mt (kept ++ mt)
  have hlen3 := h3.len hs
  have e0' : cV N ⟨⟨m.Young, m.Old⟩, kept, mt, sn, (mt.length : Int)⟩ = some (p, x) := e0
  rw [minor_all_l104.eq_2, e0', bs]
  dsimp only
  rw [e1]
  generalize hm' : x.met_ = mt' at *
  subst e2
  refine cP (fun hlt => ?_) fun hge => ?_
  ·refine Sat.bind (nj N hN hs hw kept h3 mt.length (by rw [h4, ht, List.length_append]; omega)) ?_
   rintro r ⟨sn3, e3, h5, h6⟩
   have hlen5 := h5.len hs
   rw [e3]
   dsimp only
   refine go (r.met_, sn3) ?_ ⟨h5, fun r' hr' => h2 r' (.step ?_ (by rw [← h4]; exact h6) hr')⟩
   ·obtain ⟨t3, e4⟩ := h6.app
    show 1300 - r.met_.length < 1300 - mt.length
    have : mt'.length ≤ r.met_.length := by rw [e4, List.length_append]; omega
    omega
   rw [← h4]; intro e; rw [e] at hlt; omega
  have e : mt' = mt := by
   rw [ht] at h4
   have h0 : t = [] := List.eq_nil_of_length_eq_zero (by rw [h4, List.length_append] at hge; omega)
   rw [h4, h0, List.append_nil]
  subst e
  unfold jR
  exact aP ⟨sn', (mt'.length : Int), b, rfl, h3, ⟨hb, h2 _ (.done h4.symm)⟩⟩
 -- the kept cells
 have keptL : ∀ (row : List Int) (seen : List (Int × Bool)), Mt m row seen → row = dS yB [] (cw roots) → Sat (minor_all_l51 N kept N 0 m.Young m.Old kept row seen 0) fun r => ∃ seen nx b, r = ⟨m, kept, r.met_, seen, nx⟩ ∧ Mt m r.met_ seen ∧ IsMinor (xZ N m) (bf m.Old.length) kept (qK m roots kept) b r.met_ := by
  intro row seen h hrow
  refine ce (fun k i (s : List Int × List (Int × Bool)) => minor_all_l51 N kept k (i : Int) m.Young m.Old kept s.1 s.2 0) kept.length (fun i s => Mt m s.1 s.2 ∧ s.1 = dS yB [] (cw roots ++ (kept.take i).flatMap fun a => bv (cU m a))) _ ?_ ?_ N 0 (row, seen) (by omega) (by omega) ⟨h, by simpa using hrow⟩
  ·rintro k i ⟨mt, sn⟩ hi ⟨h1, h2⟩ go
   simp only at h1 h2
   show Sat (minor_all_l51 N kept (k + 1) (i : Int) m.Young m.Old kept mt sn 0) _
   have hh := hk _ (List.getElem_mem hi)
   have hsm := hs.at_ kept[i]
   have e1 : be N ⟨⟨m.Young, m.Old⟩, kept, mt, sn, 0⟩ kept[i] = some (cU m kept[i]) := jl N hs kept mt sn 0 hh
   have hll := jm (cU m kept[i])
   rw [minor_all_l51.eq_2, cy (by omega), ct, aY hi, bs, e1, bs, nG N (by omega) _ (by omega) (by omega), bs]
   refine pm N hs (bv (cU m kept[i])) (by omega) (by omega) (fun x hx _ => hw.leads hh x hx) (minor_all_l73 N (minor_all_l51 N kept k) kept (i : Int) (bv (cU m kept[i]))) (gS N (minor_all_l51 N kept k) kept (i : Int)) (fun _ _ _ _ _ _ _ _ => by rw [minor_all_l73.eq_2]) kept 0 h1 _ fun sn' h5 => ?_
   unfold gS
   rw [r64 (by omega) (by omega)]
   refine go (dS yB mt (bv (cU m kept[i])), sn') ⟨h5, ?_⟩
   show dS yB mt (bv (cU m kept[i])) = _
   rw [bg hi, List.flatMap_append, ← List.append_assoc, oH, ← h2]; simp
  rintro k ⟨mt, sn⟩ ⟨h1, h2⟩
  simp only [List.take_length] at h1 h2
  show Sat (minor_all_l51 N kept (k + 1) _ m.Young m.Old kept mt sn 0) _
  rw [minor_all_l51.eq_2, ci (by omega), cf]
  unfold jS
  refine Sat.bind (nj N hN hs hw kept h1 0 (Nat.zero_le _)) ?_
  rintro r ⟨sn3, e3, h5, h6⟩
  rw [e3]
  dsimp only
  exact passes r.met_ sn3 h5 (by rw [h2] at h6; exact h6)
 -- the roots
 unfold fY
 refine ce (fun k i (s : List Int × List (Int × Bool)) => minor_all_l15 N roots kept k (i : Int) m.Young m.Old kept s.1 s.2 0) roots.length (fun i s => Mt m s.1 s.2 ∧ s.1 = dS yB [] (cw (roots.take i))) _ ?_ ?_ N 0 ([], []) (by omega) (by omega) ⟨Mt.nil m, rfl⟩
 ·rintro k i ⟨mt, sn⟩ hi ⟨h1, h2⟩ go
  simp only at h1 h2
  show Sat (minor_all_l15 N roots kept (k + 1) (i : Int) m.Young m.Old kept mt sn 0) _
  have hnext : dS yB [] (cw (roots.take (i + 1))) = dS yB mt (cw [roots[i]]) := by
   rw [bg hi, sR, oH, ← h2]
  rw [minor_all_l15.eq_2, cy (by omega), ct, aY hi, bs, rm, bs]
  dsimp only
  unfold gT
  cases hb : bn roots[i]
  ·rw [cf, r64 (by omega) (by omega)]
   refine go (mt, sn) ⟨h1, ?_⟩
   show mt = _
   rw [hnext]; simp [cw, hb, dS]
  rw [ct]
  have hroot : bS m roots[i].N = true := hr _ (mS.2 ⟨_, List.getElem_mem _, hb, rfl⟩)
  obtain ⟨sn', e1, e2⟩ := sv N hs kept 0 h1 roots[i].N fun _ => hroot
  have e1' : br N ⟨⟨m.Young, m.Old⟩, kept, mt, sn, 0⟩ roots[i].N = _ := e1
  rw [e1', bs]
  dsimp only
  rw [r64 (by omega) (by omega)]
  refine go (dS yB mt [roots[i].N], sn') ⟨e2, ?_⟩
  show dS yB mt [roots[i].N] = _
  rw [hnext]; simp [cw, hb]
 rintro k ⟨mt, sn⟩ ⟨h1, h2⟩
 simp only [List.take_length] at h1 h2
 show Sat (minor_all_l15 N roots kept (k + 1) _ m.Young m.Old kept mt sn 0) _
 rw [minor_all_l15.eq_2, ci (by omega), cf]
 unfold kQ
 exact keptL mt sn h1 h2
def rg (m : DMemory) (kept : List Int) : Bool := (List.range m.Old.length).all fun i => !(ey (cU m (2 * (i : Int) + 2))).any yB || decide ((2 * (i : Int) + 2) ∈ kept)
def jT (m : DMemory) (kept : List Int) : Bool := kept.all (fun a => !yB a && bS m a) && decide (kept.Pairwise (· < ·))
def lE (N : Nat) (m : DMemory) : Bool := (m.Young ++ m.Old).all (me N m)
def uL (N : Nat) (m : DMemory) (roots : List DValue) (kept : List Int) : Bool := dO m (cw roots) && lE N m && jT m kept && rg m kept
theorem pT (N : Nat) (hN : 2000 < N) (c : DCell) (hS : c.Slots.length ≤ 600) (hM : c.More.length ≤ 600) : dH N c = some (ey c) := by
 have h1 := jm c
 have h2 := lz c
 unfold dH
 rw [nG N hN c (by omega) (by omega), bs, uk N hN c (by omega) (by omega), bs, rF (by omega)]; rfl
theorem xz (N : Nat) (f : Int → Option Bool) (p : Int → Bool) (l : List Int) (hl : l.length < N) (hl2 : l.length ≤ 5000) (hf : ∀ x ∈ l, f x = some (p x)) : bQ N l f = some (l.any p) := by
 have key : ∀ k i : Nat, l.length < k + i → i ≤ l.length → Sat (slices_IndexFunc_l3 N f l k (i : Int)) fun r => decide (0 ≤ r) = (l.drop i).any p := by
  intro k
  induction k with
  | zero => intro i h1 h2; omega
  | succ k ih =>
   intro i h1 h2
   rw [slices_IndexFunc_l3.eq_2]
   by_cases hi : i < l.length
   ·have h3 := ih (i + 1) (by omega) hi
    rw [show (((i + 1 : Nat)) : Int) = (i : Int) + 1 by omega] at h3
    rw [cy (by omega), ct, aY hi, bs, List.drop_eq_getElem_cons hi, List.any_cons, hf _ (List.getElem_mem _), bs, r64 (by omega) (by omega)]
    cases p l[i]
    ·exact h3
    exact aP (by rw [decide_eq_true (by omega)]; rfl)
   rw [ci (by omega), cf, List.drop_eq_nil_of_le (by omega)]
   exact aP rfl
 obtain ⟨r, h1, h2⟩ := key N 0 (by omega) (by omega)
 have h1' : slices_IndexFunc_l3 N f l N 0 = some r := h1
 unfold bQ fM
 rw [h1', bs, h2]; rfl
theorem By (N : Nat) (f : DValue → Option Bool) (p : DValue → Bool) (l : List DValue) (hl : l.length < N) (hl2 : l.length ≤ 5000) (hf : ∀ x ∈ l, f x = some (p x)) : bR N l f = some (l.any p) := by
 have key : ∀ k i : Nat, l.length < k + i → i ≤ l.length → Sat (slices_IndexFunc_Value_l3 N f l k (i : Int)) fun r => decide (0 ≤ r) = (l.drop i).any p := by
  intro k
  induction k with
  | zero => intro i h1 h2; omega
  | succ k ih =>
   intro i h1 h2
   rw [slices_IndexFunc_Value_l3.eq_2]
   by_cases hi : i < l.length
   ·have h3 := ih (i + 1) (by omega) hi
    rw [show (((i + 1 : Nat)) : Int) = (i : Int) + 1 by omega] at h3
    rw [cy (by omega), ct, aY hi, bs, List.drop_eq_getElem_cons hi, List.any_cons, hf _ (List.getElem_mem _), bs, r64 (by omega) (by omega)]
    cases p l[i]
    ·exact h3
    exact aP (by rw [decide_eq_true (by omega)]; rfl)
   rw [ci (by omega), cf, List.drop_eq_nil_of_le (by omega)]
   exact aP rfl
 obtain ⟨r, h1, h2⟩ := key N 0 (by omega) (by omega)
 have h1' : slices_IndexFunc_Value_l3 N f l N 0 = some r := h1
 unfold bR dQ
 rw [h1', bs, h2]; rfl
theorem t7 {α : Type} (p : α → Bool) : ∀ l : List α, l.any (fun x => !p x) = !l.all p
 | [] => rfl
 | x :: l => by rw [List.any_cons, List.all_cons, t7 p l]; cases p x <;> rfl
theorem tR (N : Nat) (a b : List DCell) (ha : a.length ≤ 100000) (hb : b.length ≤ 100000) : dC N a b = some (a ++ b) := by
 unfold dC eD eO dr eg
 rw [r64 (by omega) (by omega), ci (a := 0 + (a.length : Int)) (by omega), cf, r64 (by omega) (by omega), ci (a := 0 + (a.length : Int) + (b.length : Int)) (by omega), cf, r64 (by omega) (by omega), r64 (by omega) (by omega), cf]
 by_cases h : 0 < a.length + b.length
 ·rw [cy (by omega), ct, iC ⟨by omega, by omega⟩, bs, rF (by simp; omega), rF (by simp; omega)]; rfl
 rw [ci (by omega), cf, bs, rF (by simp; omega), rF (by simp; omega)]; rfl
theorem vF (N : Nat) (hN : 5000 < N) {m : DMemory} {roots : List DValue} (hs : Small m roots) (hw : W64 m) : gQ N m = some (lE N m) := by
 have h1 := hs.young; have h2 := hs.old
 unfold gQ lE
 rw [tR N _ _ (by omega) (by omega), bs]
 have hl : (m.Young ++ m.Old).length ≤ 1200 := by rw [List.length_append]; omega
 refine oD (fun k i => minor_sound_l8 N (m.Young ++ m.Old) m k i) (m.Young ++ m.Old) _ (fun k i h => ?_) (fun k => ?_) N (by omega)
 ·have hm : (m.Young ++ m.Old)[i] ∈ m.Young ++ m.Old := List.getElem_mem _
  have hc := hs.cells _ hm
  obtain ⟨⟨a1, a2⟩, a3, a4⟩ := o4 hs hw hm
  rw [minor_sound_l8.eq_2, cy (by omega), ct, aY h, bs]
  generalize (m.Young ++ m.Old)[i] = c at *
  obtain ⟨b, hb, -⟩ := pc N (by omega) c (by omega) (by omega)
  rw [qP N (by omega) _ (by omega) (by omega), hb, bs, pT N (by omega) c hc.1 hc.2, bs, xz N _ (fun x => !bS m x) (ey c) (by unfold ey; rw [List.length_append]; omega) (by unfold ey; rw [List.length_append]; omega) (fun x hx => by
   unfold gI
   rw [rx N m x ((List.mem_append.1 hx).elim (a2 x) (a4 x)), bs]), t7]
  unfold me
  rw [hb, r64 (by omega) (by omega)]
  have e : (ey c).all (bS m) = (dO m (bv c) && dO m (cn c)) := by unfold ey dO; rw [List.all_append]
  rw [e]
  cases b <;> cases dO m (bv c) && dO m (cn c) <;> rfl
 rw [minor_sound_l8.eq_2, ci (by omega), cf]; rfl
theorem yU (l : List Int) : decide (l.Pairwise (· < ·)) = (List.range l.length).all fun i => decide (i = 0) || decide (l.getD (i - 1) 0 < l.getD i 0) := by
 rw [Bool.eq_iff_iff, decide_eq_true_eq, List.all_eq_true]
 constructor
 ·intro h i hi
  rw [List.mem_range] at hi
  by_cases h0 : i = 0
  ·rw [decide_eq_true h0]; rfl
  have := List.pairwise_iff_getElem.1 h (i - 1) i (by omega) hi (by omega)
  rw [decide_eq_true (p := l.getD (i - 1) 0 < l.getD i 0) (by simpa [List.getD, hi, show i - 1 < l.length by omega] using this), Bool.or_true]
 intro h
 refine List.pairwise_iff_getElem.2 fun i j hi hj hij => ?_
 have step : ∀ k, i + k + 1 < l.length → l[i]'hi < l.getD (i + k + 1) 0 := by
  intro k
  induction k with
  | zero =>
   intro hk
   have := h (i + 1) (List.mem_range.2 hk)
   rw [decide_eq_false (p := i + 1 = 0) (by omega), Bool.false_or, decide_eq_true_eq, Nat.add_sub_cancel] at this
   simpa [List.getD, hi] using this
  | succ k ih =>
   intro hk
   have h1 := ih (by omega)
   have := h (i + k + 1 + 1) (List.mem_range.2 (by omega))
   rw [decide_eq_false (p := i + k + 1 + 1 = 0) (by omega), Bool.false_or, decide_eq_true_eq, Nat.add_sub_cancel] at this
   show l[i]'hi < l.getD (i + k + 1 + 1) 0
   omega
 have := step (j - i - 1) (by omega)
 rw [show i + (j - i - 1) + 1 = j by omega] at this
 simpa [List.getD, hj] using this
theorem sw (N : Nat) (hN : 5000 < N) {m : DMemory} {roots : List DValue} (hs : Small m roots) (hw : W64 m) (hr : ∀ v ∈ roots, aK v.N) (kept : List Int) (hk : kept.length ≤ 5000) (k64 : ∀ x ∈ kept, aK x) : ib N m roots kept = some (uL N m roots kept) := by
 have h3 := hs.roots
 have ho := hs.old
 -- the old cells
 have olds : eA N kept m = some (rg m kept) := by
  unfold eA rg
  have hlr : (List.range m.Old.length).length = m.Old.length := List.length_range
  refine oD (fun k i => minor_may_l25 N m kept k i) (List.range m.Old.length) _ (fun k i h => ?_) (fun k => ?_) N (by omega)
  ·rw [hlr] at h
   have hm : m.Old[i] ∈ m.Young ++ m.Old := List.mem_append_right _ (List.getElem_mem _)
   have hc := hs.cells _ hm
   obtain ⟨⟨a1, a2⟩, a3, a4⟩ := o4 hs hw hm
   rw [minor_may_l25.eq_2, cy (by omega), ct, aY h, bs, pT N (by omega) _ hc.1 hc.2, bs, xz N _ yB (ey m.Old[i]) (by unfold ey; rw [List.length_append]; omega) (by unfold ey; rw [List.length_append]; omega) (fun x _ => iW N x), bs, r64 (a := 2 * (i : Int)) (by omega) (by omega), r64 (a := 2 * (i : Int) + 2) (by omega) (by omega), gU N hN kept hk, bs, r64 (by omega) (by omega), List.getElem_range, pZ m i h]
   cases (ey m.Old[i]).any yB <;> cases decide ((2 * (i : Int) + 2) ∈ kept) <;> rfl
  rw [hlr, minor_may_l25.eq_2, ci (by omega), cf]; rfl
 -- the kept addresses
 have hkept : minor_may_l11 N kept m N 0 = bif jT m kept then eA N kept m else some false := by
  have hlr : (List.range kept.length).length = kept.length := List.length_range
  have := mI (fun k i => minor_may_l11 N kept m k i) (List.range kept.length) (fun i => (!yB (kept.getD i 0) && bS m (kept.getD i 0)) && (decide (i = 0) || decide (kept.getD (i - 1) 0 < kept.getD i 0))) (some false) (eA N kept m) (fun k i h => ?_) (fun k => ?_) N (by omega)
  ·rw [this]
   have e : ((List.range kept.length).all fun i => (!yB (kept.getD i 0) && bS m (kept.getD i 0)) && (decide (i = 0) || decide (kept.getD (i - 1) 0 < kept.getD i 0))) = jT m kept := by
    unfold jT
    rw [yU]
    have e2 : kept.all (fun a => !yB a && bS m a) = (List.range kept.length).all fun i => !yB (kept.getD i 0) && bS m (kept.getD i 0) := by
     rw [Bool.eq_iff_iff, List.all_eq_true, List.all_eq_true]
     constructor
     ·intro h i hi
      rw [List.mem_range] at hi
      have : kept.getD i 0 = kept[i] := by simp [List.getD, hi]
      rw [this]; exact h _ (List.getElem_mem _)
     intro h x hx
     obtain ⟨i, hi, rfl⟩ := List.getElem_of_mem hx
     have := h i (List.mem_range.2 hi)
     rwa [show kept.getD i 0 = kept[i] by simp [List.getD, hi]] at this
    rw [e2]
    induction List.range kept.length with
    | nil => rfl
    | cons a l ih => rw [List.all_cons, List.all_cons, List.all_cons, ih]; cases (!yB (kept.getD a 0) && bS m (kept.getD a 0)) <;> cases (decide (a = 0) || decide (kept.getD (a - 1) 0 < kept.getD a 0)) <;> simp
   rw [e]
  ·rw [hlr] at h
   have hg : kept.getD i 0 = kept[i] := by simp [List.getD, h]
   rw [minor_may_l11.eq_2, cy (by omega), ct, aY h, bs, iW, bs, rx N m _ (k64 _ (List.getElem_mem _)), r64 (a := (i : Int) + 1) (by omega) (by omega), List.getElem_range, hg]
   by_cases h0 : i = 0
   ·subst h0
    rw [ci (a := 0) (b := ((0 : Nat) : Int)) (by omega)]
    cases yB kept[0] <;> cases bS m kept[0] <;> rfl
   have hp : aH kept ((i : Int) - 1) = some (kept.getD (i - 1) 0) := by
    have := aY (xs := kept) (i := i - 1) (by omega)
    rw [show (((i - 1 : Nat)) : Int) = (i : Int) - 1 by omega] at this
    rw [this]; simp [List.getD, show i - 1 < kept.length by omega]
   rw [cy (a := 0) (b := (i : Int)) (by omega), ct, r64 (a := (i : Int) - 1) (by omega) (by omega), hp, decide_eq_false h0]
   simp only [bs]
   by_cases hlt : kept.getD (i - 1) 0 < kept[i]
   ·rw [zm hlt, decide_eq_true hlt]
    cases yB kept[i] <;> cases bS m kept[i] <;> rfl
   rw [zl (by omega), decide_eq_false hlt]
   cases yB kept[i] <;> cases bS m kept[i] <;> rfl
  rw [hlr, minor_may_l11.eq_2, ci (by omega), cf]
 have hroots : bR N roots (fun x => gm N x m) = some (!dO m (cw roots)) := by
  rw [By N _ (fun v => !(!bn v || bS m v.N)) roots (by omega) (by omega) (fun v hv => by
   unfold gm
   rw [rm, bs]
   dsimp only
   rw [rx N m _ (hr v hv), bs]
   cases bn v <;> cases bS m v.N <;> rfl), t7]
  unfold dO cw
  rw [all_map, rK]
 unfold ib uL
 rw [hroots, bs, vF N hN hs hw, bs, hkept, olds]
 cases dO m (cw roots) <;> cases lE N m <;> cases jT m kept <;> rfl
def yf (c : DCell) : DCell := ⟨c.Kind, c.Shape, c.Flags, c.Age, c.Slots.take 20, c.More.take 40⟩
def nI (l : List DCell) : List DCell := (l.take 40).map yf
def Cl (m : DMemory) : DMemory := ⟨nI m.Young, nI m.Old⟩
theorem qI {α : Type} (l : List α) {z : Int} {k : Nat} (h : z = k) : (l.drop 0).take ((min (l.length : Int) z).toNat - 0) = l.take k := by
 rw [List.drop_zero]
 by_cases h2 : k ≤ l.length
 ·congr 1; omega
 rw [List.take_of_length_le (by omega), List.take_of_length_le (by omega)]
theorem yc {l : List DCell} {i : Nat} (h : i < l.length) (h2 : i < 40) : nI (l.take (i + 1)) = nI (l.take i) ++ [yf l[i]] := by
 unfold nI
 rw [List.take_take, List.take_take, Nat.min_eq_right (by omega), Nat.min_eq_right (by omega), bg h, List.map_append]; rfl
theorem BO (N : Nat) (hN : 100 < N) (l : List DCell) (hl : l.length ≤ 140737488355328) : kg N l = some (nI l) := by
 apply Sat.eq
 unfold kg
 refine ce (fun k i s => w20_few_l4 N l k s (i : Int)) (min l.length 40) (fun i s => s = nI (l.take i)) _ ?_ ?_ N 0 [] (by omega) (by omega) rfl
 ·rintro k i s hi rfl go
  have h1 : i < l.length := by omega
  show Sat (w20_few_l4 N l (k + 1) _ (i : Int)) _
  have hlen : (nI (l.take i)).length = i := by unfold nI; simp; omega
  rw [w20_few_l4.eq_2, cy (by omega), ct, cy (by omega), bs, ct, aY h1, bs, iC ⟨by omega, by omega, by omega⟩, iC ⟨by omega, by omega, by omega⟩, rF (by rw [hlen]; simp; omega), r64 (by omega) (by omega), qI (z := 20) (k := 20) _ rfl, qI (z := 40) (k := 40) _ rfl]
  exact go _ (by rw [yc h1 (by omega)]; rfl)
 rintro k s rfl
 show Sat (w20_few_l4 N l (k + 1) _ _) _
 have e : nI (l.take (min l.length 40)) = nI l := by
  unfold nI
  rw [List.take_take]
  by_cases h : 40 ≤ l.length
  ·rw [show min 40 (min l.length 40) = 40 by omega]
  rw [List.take_of_length_le (i := min 40 (min l.length 40)) (by omega), List.take_of_length_le (i := 40) (by omega)]
 rw [w20_few_l4.eq_2, e]
 by_cases h : l.length ≤ 40
 ·rw [ci (by omega), cf, bs, cf]; exact aP rfl
 rw [cy (by omega), ct, ci (by omega), bs, cf]; exact aP rfl
theorem yb (N : Nat) (hN : 100 < N) (m : DMemory) (h1 : m.Young.length ≤ 140737488355328) (h2 : m.Old.length ≤ 140737488355328) : my N m = some (Cl m) := by
 unfold my
 rw [BO N hN _ h1, bs, BO N hN _ h2, bs]; rfl
theorem oO {l : List DCell} {c : DCell} (h : c ∈ nI l) : ∃ d ∈ l, c = yf d := by
 obtain ⟨d, hd, e⟩ := List.mem_map.1 h
 exact ⟨d, List.mem_of_mem_take hd, e.symm⟩
theorem uW (l : List DCell) : (nI l).length ≤ 40 := by unfold nI; simp; omega
structure Few20 (m : DMemory) (roots : List DValue) : Prop where
 young : m.Young.length ≤ 40
 old : m.Old.length ≤ 40
 roots : roots.length ≤ 40
 cells : ∀ c ∈ m.Young ++ m.Old, c.Slots.length ≤ 20 ∧ c.More.length ≤ 40
theorem Few20.small {m : DMemory} {roots : List DValue} (h : Few20 m roots) : Small m roots := ⟨by have := h.young; omega, by have := h.old; omega, by have := h.roots; omega, fun c hc => by have := h.cells c hc; omega⟩
theorem Ck (m : DMemory) (roots : List DValue) : Few20 (Cl m) (roots.take 40) := ⟨uW _, uW _, by simp; omega, fun c hc => by
 obtain ⟨d, -, rfl⟩ : ∃ d ∈ m.Young ++ m.Old, c = yf d := by
  rcases List.mem_append.1 hc with hc | hc
  ·obtain ⟨d, h1, h2⟩ := oO hc; exact ⟨d, List.mem_append_left _ h1, h2⟩
  ·obtain ⟨d, h1, h2⟩ := oO hc; exact ⟨d, List.mem_append_right _ h1, h2⟩
 unfold yf; simp; omega⟩
theorem AQ {m : DMemory} (h : W64 m) : W64 (Cl m) := fun c hc v hv => by
 obtain ⟨d, hd, rfl⟩ : ∃ d ∈ m.Young ++ m.Old, c = yf d := by
  rcases List.mem_append.1 hc with hc | hc
  ·obtain ⟨d, h1, h2⟩ := oO hc; exact ⟨d, List.mem_append_left _ h1, h2⟩
  obtain ⟨d, h1, h2⟩ := oO hc; exact ⟨d, List.mem_append_right _ h1, h2⟩
 refine h d hd v ?_
 rcases List.mem_append.1 hv with hv | hv
 ·exact List.mem_append_left _ (List.mem_of_mem_take hv)
 exact List.mem_append_right _ (List.mem_of_mem_take hv)
theorem sW (N : Nat) (a : Int) : fV N a = some (yB a) := by
 unfold fV yB
 cases decide (0 < a) <;> cases decide (a.tmod 2 = 1) <;> rfl
theorem C8 (N : Nat) (m : DMemory) (a : Int) (h : aK a) : mG N m a = some (bS m a) := by
 unfold aK at h
 unfold mG bS
 rcases nM m a with ⟨h1, h2⟩ | ⟨k, h1, h2⟩ | ⟨k, h1, h2⟩
 ·rw [h2, cy h1]; rfl
 ·subst h1
  rw [h2, ci (by omega), cf, sW, bs, sX, ct, pH (by omega), show (2 * (k : Int) + 1) / 2 = k by omega, iC (by unfold aK; omega), mJ]
 subst h1
 rw [h2, ci (by omega), cf, sW, bs, nQ, cf, pH (by omega), show (2 * (k : Int) + 2) / 2 = (k : Int) + 1 by omega, iC (by unfold aK; omega), iC (by unfold aK; omega), show (k : Int) + 1 - 1 = k by omega, mJ]
theorem tN (N : Nat) (m : DMemory) (l : List Int) (hl : l.length < N) (hl2 : l.length ≤ 5000) (h64 : ∀ x ∈ l, aK x) : fU N m l = some (dO m l) := by
 unfold fU dO
 refine oD _ l _ (fun k i h => ?_) (fun k => ?_) N hl
 ·rw [r20_every_l6.eq_2, cy (by omega), ct, aY h, bs, C8 N m _ (h64 _ (List.getElem_mem _)), bs, r64 (by omega) (by omega)]
  cases bS m l[i] <;> rfl
 rw [r20_every_l6.eq_2, ci (by omega), cf]; rfl
theorem Au (N : Nat) (l : List DValue) (hl : l.length < N) (hl2 : l.length ≤ 5000) : jF N l = some (cw l) := by
 apply Sat.eq
 unfold jF
 refine ce (fun k i s => r20_Roots_l4 N l k s (i : Int)) l.length (fun i s => s = cw (l.take i) ∧ s.length ≤ i) _ ?_ ?_ N 0 [] (by omega) (by omega) ⟨rfl, Nat.le_refl _⟩
 ·rintro k i s hi ⟨rfl, h2⟩ go
  show Sat (r20_Roots_l4 N l (k + 1) _ (i : Int)) _
  have hnext : cw (l.take (i + 1)) = cw (l.take i) ++ cw [l[i]] := by rw [bg hi, sR]
  rw [r20_Roots_l4.eq_2, cy (by omega), ct, aY hi, bs]
  simp only [bs]
  have hb : (bif decide (l[i].Kind = 7) then some true else some (decide (l[i].Kind = 9))) = some (bn l[i]) := by unfold bn; cases decide (l[i].Kind = 7) <;> rfl
  rw [hb, bs]
  unfold iL
  rw [r64 (by omega) (by omega), r64 (by omega) (by omega)]
  cases h3 : bn l[i]
  ·rw [cf]
   have e : cw [l[i]] = [] := by simp [cw, h3]
   exact go _ ⟨by rw [hnext, e, List.append_nil], by omega⟩
  rw [ct, rF (by simp; omega)]
  have e : cw [l[i]] = [l[i].N] := by simp [cw, h3]
  exact go _ ⟨by rw [hnext, e], by simp; omega⟩
 rintro k s ⟨rfl, h2⟩
 show Sat (r20_Roots_l4 N l (k + 1) _ _) _
 rw [r20_Roots_l4.eq_2, ci (by omega), cf, List.take_length]
 exact aP rfl
def kx (N : Nat) (m : DMemory) (roots : List DValue) : Bool := dO m (cw roots) && lE N m
theorem zw (N : Nat) (hN : 5000 < N) {m : DMemory} {roots : List DValue} (hs : Small m roots) (hw : W64 m) (hr : ∀ v ∈ roots, aK v.N) : jc N m roots = some (kx N m roots) := by
 have h1 := hs.young; have h2 := hs.old; have h3 := hs.roots
 have hl : (m.Young ++ m.Old).length = m.Young.length + m.Old.length := List.length_append
 have body : ∀ (kb : Int → Option Bool) (i : Nat) (c : DCell), c ∈ m.Young ++ m.Old → i < 1200 → gg N kb (i : Int) m c.Kind c.Shape c.Flags c.Age c.Slots c.More = bif me N m c then kb ((i : Int) + 1) else some false := by
  intro kb i c hm hi
  have hc := hs.cells _ hm
  obtain ⟨⟨a1, a2⟩, a3, a4⟩ := o4 hs hw hm
  obtain ⟨b, hb, -⟩ := pc N (by omega) c (by omega) (by omega)
  have hb' : bI N ⟨c.Kind, c.Shape, c.Flags, c.Age, c.Slots, c.More⟩ = some b := hb
  have hl' : eR N ⟨c.Kind, c.Shape, c.Flags, c.Age, c.Slots, c.More⟩ = _ := sy N (by omega) c (by omega) (by omega)
  have hw' : fg N ⟨c.Kind, c.Shape, c.Flags, c.Age, c.Slots, c.More⟩ = _ := qB N (by omega) c (by omega)
  unfold gg
  rw [hb', bs, hl', hw', bs, bs, tN N m _ (by omega) (by omega) a2, tN N m _ (by omega) (by omega) a4, bs, bs, r64 (by omega) (by omega)]
  unfold me
  rw [hb]
  cases b <;> cases dO m (bv c) <;> cases dO m (cn c) <;> rfl
 have cells : r20_Fine_l10 N m N 0 = some (lE N m) := by
  unfold lE
  refine oD (fun k i => r20_Fine_l10 N m k i) (m.Young ++ m.Old) _ (fun k i h => ?_) (fun k => ?_) N (by omega)
  ·rw [r20_Fine_l10.eq_2, r64 (by omega) (by omega), cy (by omega), ct]
   by_cases hi : i < m.Young.length
   ·rw [cy (by omega), ct, aY hi, bs, body _ i _ (List.mem_append_left _ (List.getElem_mem _)) (by omega), List.getElem_append_left hi]
   have hj : i - m.Young.length < m.Old.length := by omega
   rw [ci (by omega), cf, r64 (by omega) (by omega), show (i : Int) - (m.Young.length : Int) = ((i - m.Young.length : Nat) : Int) by omega, aY hj, bs, body _ i _ (List.mem_append_right _ (List.getElem_mem _)) (by omega), List.getElem_append_right (by omega)]
  rw [hl, r20_Fine_l10.eq_2, r64 (by omega) (by omega), ci (by omega), cf]; rfl
 unfold jc kx
 have h64 : ∀ x ∈ cw roots, aK x := fun x hx => by
  obtain ⟨v, hv, -, rfl⟩ := mS.1 hx
  exact hr v hv
 have hal : (cw roots).length ≤ roots.length := by unfold cw; rw [List.length_map]; exact List.length_filter_le _ _
 rw [Au N _ (by omega) (by omega), bs, tN N m _ (by omega) (by omega) h64, bs, cells]
 cases dO m (cw roots) <;> rfl
def lS (m : DMemory) (i : Nat) : Bool := (ey (cU m (2 * (i : Int) + 2))).any yB
def iE (m : DMemory) : List Int := ((List.range m.Old.length).filter (lS m)).map fun i : Nat => 2 * (i : Int) + 2
theorem zp (N : Nat) (hN : 5000 < N) {m : DMemory} {roots : List DValue} (hs : Small m roots) : kD N m = some (iE m) := by
 have ho := hs.old
 apply Sat.eq
 unfold kD
 refine ce (fun k i s => w20_kept_l6 N m k s (i : Int)) m.Old.length (fun i s => s = ((List.range i).filter (lS m)).map (fun i : Nat => 2 * (i : Int) + 2)) _ ?_ ?_ N 0 [] (by omega) (by omega) rfl
 ·rintro k i s hi rfl go
  have hc := hs.cells _ (List.mem_append_right m.Young (List.getElem_mem hi))
  have hlen : ∀ i, (((List.range i).filter (lS m)).map (fun i : Nat => 2 * (i : Int) + 2)).length ≤ i := fun i => by rw [List.length_map]; exact Nat.le_trans (List.length_filter_le _ _) (by simp)
  have hli := hlen i
  show Sat (w20_kept_l6 N m (k + 1) _ (i : Int)) _
  have ll := jm m.Old[i]
  have lw := lz m.Old[i]
  rw [w20_kept_l6.eq_2, cy (by omega), ct, aY hi, bs, bs, sy N (by omega) _ (by omega) (by omega), qB N (by omega) _ (by omega), bs, bs, rF (by omega)]
  have hnext : ((List.range (i + 1)).filter (lS m)).map (fun i : Nat => 2 * (i : Int) + 2) = ((List.range i).filter (lS m)).map (fun i : Nat => 2 * (i : Int) + 2) ++ (bif lS m i then [2 * (i : Int) + 2] else []) := by
   rw [List.range_succ, List.filter_append, List.map_append]
   cases h : lS m i <;> simp [h]
  have hl2 : (bv m.Old[i] ++ cn m.Old[i]).length ≤ 2400 := by rw [List.length_append]; omega
  refine ce (fun k2 j (b : Bool) => w20_kept_l29 N (w20_kept_l6 N m k) (i : Int) _ (bv m.Old[i]) (cn m.Old[i]) m k2 b (j : Int)) (bv m.Old[i] ++ cn m.Old[i]).length (fun j b => b = ((bv m.Old[i] ++ cn m.Old[i]).take j).any yB) _ ?_ ?_ N 0 false (by omega) (by omega) rfl
  ·rintro k2 j b hj rfl go2
   show Sat (w20_kept_l29 N _ (i : Int) _ _ _ m (k2 + 1) _ (j : Int)) _
   have hb : (bif ((bv m.Old[i] ++ cn m.Old[i]).take j).any yB then some true else ((aH (bv m.Old[i] ++ cn m.Old[i]) (j : Int)).bind fun x34 => (fV N x34).bind fun y35 => some y35)) = some (((bv m.Old[i] ++ cn m.Old[i]).take (j + 1)).any yB) := by
    rw [aY hj, bs, sW, bs, bg hj, List.any_append]
    cases ((bv m.Old[i] ++ cn m.Old[i]).take j).any yB <;> simp
   rw [w20_kept_l29.eq_2, cy (by omega), ct, hb, bs, r64 (by omega) (by omega)]
   exact go2 _ rfl
  rintro k2 b rfl
  show Sat (w20_kept_l29 N _ (i : Int) _ _ _ m (k2 + 1) _ _) _
  rw [w20_kept_l29.eq_2, ci (by omega), cf, List.take_length]
  unfold kC iJ
  have e : (bv m.Old[i] ++ cn m.Old[i]).any yB = lS m i := by unfold lS ey; rw [pZ m i hi]
  rw [e, r64 (by omega) (by omega), r64 (by omega) (by omega), r64 (by omega) (by omega), r64 (by omega) (by omega), rF (by simp only [List.length_map] at hli ⊢; simp; omega)]
  cases h : lS m i
  ·rw [cf]; exact go _ (by rw [hnext, h, cf, List.append_nil])
  rw [ct]; exact go _ (by rw [hnext, h, ct])
 rintro k s rfl
 show Sat (w20_kept_l6 N m (k + 1) _ _) _
 rw [w20_kept_l6.eq_2, ci (by omega), cf]
 exact aP rfl
theorem sC {m : DMemory} {x : Int} : x ∈ iE m ↔ ∃ i : Nat, i < m.Old.length ∧ lS m i = true ∧ x = 2 * (i : Int) + 2 := by
 unfold iE
 simp only [List.mem_map, List.mem_filter, List.mem_range]
 constructor
 ·rintro ⟨i, ⟨h1, h2⟩, rfl⟩; exact ⟨i, h1, h2, rfl⟩
 rintro ⟨i, h1, h2, rfl⟩; exact ⟨i, ⟨h1, h2⟩, rfl⟩
theorem sD {m : DMemory} : (iE m).length ≤ m.Old.length := by unfold iE; rw [List.length_map]; exact Nat.le_trans (List.length_filter_le _ _) (by simp)
theorem sE {m : DMemory} {x : Int} (h : x ∈ iE m) : bS m x = true ∧ yB x = false := by
 obtain ⟨i, h1, -, rfl⟩ := sC.1 h
 exact ⟨by rw [tI]; exact decide_eq_true h1, nQ i⟩
theorem zo (m : DMemory) : jT m (iE m) = true := by
 unfold jT
 rw [Bool.and_eq_true, decide_eq_true_eq, List.all_eq_true]
 refine ⟨fun x hx => ?_, ?_⟩
 ·obtain ⟨h1, h2⟩ := sE hx
  rw [h1, h2]; rfl
 unfold iE
 refine List.Pairwise.map _ (fun a b (h : a < b) => ?_) ((List.pairwise_lt_range).filter _)
 omega
theorem AF (m : DMemory) : rg m (iE m) = true := by
 unfold rg
 rw [List.all_eq_true]
 intro i hi
 rw [List.mem_range] at hi
 cases h : (ey (cU m (2 * (i : Int) + 2))).any yB
 ·rfl
 have : (2 * (i : Int) + 2) ∈ iE m := sC.2 ⟨i, hi, h, rfl⟩
 rw [decide_eq_true this]; rfl
theorem sx (N : Nat) (m : DMemory) (roots : List DValue) : uL N m roots (iE m) = kx N m roots := by
 unfold uL kx
 rw [zo, AF, Bool.and_true, Bool.and_true]
theorem t6 : lB 6000 = some true := by kernel_rfl
theorem cS {n : Nat} {x : Int} : x ∈ bf n ↔ ∃ i : Nat, i < n ∧ x = 2 * (i : Int) + 2 := by
 unfold bf
 simp only [List.mem_map, List.mem_range]
 constructor
 ·rintro ⟨i, h, rfl⟩; exact ⟨i, h, rfl⟩
 rintro ⟨i, h, rfl⟩; exact ⟨i, h, rfl⟩
def Dy (n : Nat) : List DValue := (List.range n).map fun i : Nat => (⟨9, 2 * (i : Int) + 2, ⟨#[]⟩⟩ : DValue)
theorem uR {m : DMemory} {a : Int} (h : bS m a = true) (hy : yB a = false) : ∃ i : Nat, i < m.Old.length ∧ a = 2 * (i : Int) + 2 := by
 rcases pu h with ⟨i, hi, rfl⟩ | h
 ·rw [sX] at hy; cases hy
 exact h
theorem vT {N : Nat} {c : DCell} {l : List Int} {x : Int} (h : x ∈ fw N c l) : x ∈ ey c := by
 unfold fw at h
 cases hw : kS N c with
 | false => rw [hw] at h; cases h
 | true =>
  rw [hw] at h
  obtain ⟨v, hv, hb, rfl⟩ := ph h
  exact ua (List.mem_append_right _ hv) hb
theorem oM {N : Nat} {m : DMemory} {roots : List DValue} (h : kx N m roots = true) : Whole m ∧ (∀ x ∈ cw roots, bS m x = true) ∧ ∀ c ∈ m.Young ++ m.Old, me N m c = true := by
 unfold kx at h
 rw [Bool.and_eq_true] at h
 have h2 : ∀ c ∈ m.Young ++ m.Old, me N m c = true := fun c hc => mR h.2 hc
 refine ⟨fun a ha x hx => ?_, fun x hx => mR h.1 hx, h2⟩
 have h3 := h2 (cU m a) (by
  unfold bS at ha; unfold cU
  cases hc : dU m a with
  | none => rw [hc] at ha; cases ha
  | some c => exact ld hc)
 unfold me at h3
 rw [Bool.and_eq_true, Bool.and_eq_true] at h3
 rcases List.mem_append.1 hx with hx | hx
 ·exact mR h3.2.1 hx
 exact mR h3.2.2 hx
def nX (met to : List Int) (a : Int) : Int := if a ∈ met then to.getD (met.idxOf a) 0 else a
theorem wL {α : Type} {g : α → α} {l : List α} {i : Nat} (h : i < l.length) : aH ((l.take i).map g ++ l.drop i) (i : Int) = some l[i] := by
 have h1 : i < ((l.take i).map g ++ l.drop i).length := by simp; omega
 rw [aY h1]
 congr 1
 rw [List.getElem_append_right (by simp; omega)]
 simp [Nat.min_eq_left (Nat.le_of_lt h)]
theorem wK {α : Type} {g : α → α} {l : List α} {i : Nat} (h : i < l.length) : ((l.take i).map g ++ l.drop i).set i (g l[i]) = (l.take (i + 1)).map g ++ l.drop (i + 1) := by
 rw [bg h, List.drop_eq_getElem_cons h, List.map_append]
 rw [List.set_append, if_neg (by simp; omega)]
 simp [Nat.min_eq_left (Nat.le_of_lt h)]
 rw [List.drop_eq_getElem_cons h]; rfl
theorem nU {α : Type} {g : α → α} {l : List α} {i : Nat} (h : i < l.length) (he : g l[i] = l[i]) : (l.take i).map g ++ l.drop i = (l.take (i + 1)).map g ++ l.drop (i + 1) := by
 rw [bg h, List.drop_eq_getElem_cons h, List.map_append]
 simp [he]
def CR (kv : List (Int × Int)) (met to : List Int) (i : Nat) : Prop := ∀ x, lk kv x = if x ∈ met.take i then some (nX met to x) else none
theorem pj {l : List Int} (hn : l.Nodup) {i : Nat} (h : i < l.length) : l.idxOf l[i] = i := by
 have hm : l[i] ∈ l := List.getElem_mem _
 rcases Nat.lt_trichotomy (l.idxOf l[i]) i with h2 | h2 | h2
 ·exact absurd (kT hm) (List.pairwise_iff_getElem.1 (List.nodup_iff_pairwise_ne.1 hn) _ _ (nH hm) h h2)
 ·exact h2
 exact absurd (kT hm).symm (List.pairwise_iff_getElem.1 (List.nodup_iff_pairwise_ne.1 hn) _ _ h (nH hm) h2)
theorem rh {l : List Int} (hn : l.Nodup) {i : Nat} (h : i < l.length) : l[i] ∉ l.take i := fun hm => by
 obtain ⟨j, hj, e⟩ := List.getElem_of_mem hm
 rw [List.length_take] at hj
 rw [List.getElem_take] at e
 exact absurd e (List.pairwise_iff_getElem.1 (List.nodup_iff_pairwise_ne.1 hn) _ _ (by omega) h (by omega))
theorem pW (N : Nat) (hN : 5000 < N) (c : DCell) (hS : c.Slots.length ≤ 4000) (hM : c.More.length ≤ 4000) (met to : List Int) (hn : met.Nodup) (hl : to.length = met.length) (hml : met.length ≤ 1200) : dN N c met to = some (iN (nX met to) met c) := by
 apply Sat.eq
 have mv : ∀ (kv : List (Int × Int)), CR kv met to met.length → ∀ v : DValue, (lk kv v.N).isSome = decide (v.N ∈ met) ∧ (v.N ∈ met → bn v = true → (⟨v.Kind, (lk kv v.N).getD 0, v.S⟩ : DValue) = dw (nX met to) met v) := fun kv hk v => by
  rw [hk v.N, List.take_length]
  by_cases h : v.N ∈ met
  ·rw [if_pos h, decide_eq_true h]
   refine ⟨rfl, fun _ hb => ?_⟩
   rw [zd hb h]; rfl
  rw [if_neg h, decide_eq_false h]
  exact ⟨rfl, fun h2 => absurd h2 h⟩
 have keep : ∀ v : DValue, (v.N ∉ met ∨ bn v = false) → dw (nX met to) met v = v := fun v h => by
  unfold dw
  rcases h with h | h
  ·rw [decide_eq_false h, Bool.and_false]; rfl
  rw [h]; rfl
 have copy : eZ N c = some c := by
  unfold eZ dj
  rw [rF (by simp only [List.length_nil]; omega), rF (by simp only [List.length_nil]; omega)]; rfl
 have body : ∀ kv : List (Int × Int), CR kv met to met.length → Sat (gV N c kv) fun r => r = iN (nX met to) met c := by
  intro kv hk
  unfold gV
  rw [copy, bs]
  refine ce (fun k i (s : List DValue) => cell_Moved_l30 N c kv k s (i : Int)) c.Slots.length (fun i s => s = (c.Slots.take i).map (dw (nX met to) met) ++ c.Slots.drop i) _ ?_ ?_ N 0 c.Slots (by omega) (by omega) (by simp)
  ·rintro k i s hi rfl go
   show Sat (cell_Moved_l30 N c kv (k + 1) _ (i : Int)) _
   obtain ⟨e1, e2⟩ := mv kv hk c.Slots[i]
   rw [cell_Moved_l30.eq_2, cy (by omega), ct, wL hi, bs, e1, iu]
   simp only [bs]
   unfold gx
   rw [r64 (by omega) (by omega), r64 (by omega) (by omega)]
   by_cases hm : c.Slots[i].N ∈ met
   ·rw [decide_eq_true hm, ct, bs]
    cases hb : bn c.Slots[i]
    ·rw [cf]; exact go _ (nU hi (keep _ (.inr hb)))
    rw [ct, e2 hm hb, Int.toNat_natCast]; exact go _ (wK hi)
   rw [decide_eq_false hm, cf, bs, cf]; exact go _ (nU hi (keep _ (.inl hm)))
  rintro k s rfl
  show Sat (cell_Moved_l30 N c kv (k + 1) _ _) _
  rw [cell_Moved_l30.eq_2, ci (by omega), cf, List.take_length, List.drop_length, List.append_nil]
  unfold jw
  refine ce (fun k i (s : List DValue) => cell_Moved_l45 N c kv _ k s (i : Int)) c.More.length (fun i s => s = (c.More.take i).map (dw (nX met to) met) ++ c.More.drop i) _ ?_ ?_ N 0 c.More (by omega) (by omega) (by simp)
  ·rintro k i s hi rfl go
   show Sat (cell_Moved_l45 N c kv _ (k + 1) _ (i : Int)) _
   obtain ⟨e1, e2⟩ := mv kv hk c.More[i]
   rw [cell_Moved_l45.eq_2, cy (by omega), ct, wL hi, bs, e1, iu]
   simp only [bs]
   unfold gw
   rw [r64 (by omega) (by omega), r64 (by omega) (by omega)]
   by_cases hm : c.More[i].N ∈ met
   ·rw [decide_eq_true hm, ct, bs]
    cases hb : bn c.More[i]
    ·rw [cf]; exact go _ (nU hi (keep _ (.inr hb)))
    rw [ct, e2 hm hb, Int.toNat_natCast]; exact go _ (wK hi)
   rw [decide_eq_false hm, cf, bs, cf]; exact go _ (nU hi (keep _ (.inl hm)))
  rintro k s rfl
  show Sat (cell_Moved_l45 N c kv _ (k + 1) _ _) _
  rw [cell_Moved_l45.eq_2, ci (by omega), cf, List.take_length, List.drop_length, List.append_nil]
  unfold jv jx
  exact aP rfl
 unfold dN
 refine ce (fun k i (s : List (Int × Int)) => cell_Moved_l10 N met to c k s (i : Int)) met.length (fun i s => CR s met to i) _ ?_ ?_ N 0 [] (by omega) (by omega) (fun x => rfl)
 ·rintro k i s hi h1 go
  show Sat (cell_Moved_l10 N met to c (k + 1) _ (i : Int)) _
  have hno : lk s met[i] = none := by rw [h1, if_neg (rh hn hi)]
  have hto : i < to.length := by omega
  rw [cell_Moved_l10.eq_2, cy (by omega), ct, aY hi, bs, hno, Option.isSome_none, cf, cy (by omega), ct, aY hto, bs]
  unfold eY
  rw [r64 (by omega) (by omega)]
  refine go _ fun x => ?_
  rw [wW, wW, h1 x, bg hi]
  by_cases e : met[i] = x
  ·subst e
   rw [if_pos rfl, if_pos (List.mem_append_right _ (List.mem_singleton.2 rfl))]
   unfold nX
   rw [if_pos (List.getElem_mem _), pj hn hi]
   simp [List.getD, hto]
  rw [if_neg e, if_neg e]
  by_cases hx : x ∈ met.take i
  ·rw [if_pos hx, if_pos (List.mem_append_left _ hx)]
  rw [if_neg hx, if_neg fun h2 => (List.mem_append.1 h2).elim hx fun h2 => e (List.mem_singleton.1 h2).symm]
 rintro k s h1
 show Sat (cell_Moved_l10 N met to c (k + 1) _ _) _
 rw [cell_Moved_l10.eq_2, ci (by omega), cf]
 exact body s h1
theorem pR (N : Nat) (hN : 5000 < N) (l : List DValue) (hl2 : l.length ≤ 4000) (met to : List Int) (hn : met.Nodup) (hl : to.length = met.length) (hml : met.length ≤ 1200) : fE N l met to = some (l.map (dw (nX met to) met)) := by
 unfold fE
 rw [pW N hN _ (by simp) hl2 met to hn hl hml, bs]; rfl
def cB (m : DMemory) (a : Int) : Bool := decide ((cU m a).Age = 0)
def jg (p : Int → Bool) : List Int → Nat → Nat → List Int
 | [], _, _ => []
 | a :: l, s, o => bif p a then (2 * (s : Int) + 1) :: jg p l (s + 1) o else (2 * (o : Int) + 2) :: jg p l s (o + 1)
theorem sk (p : Int → Bool) (a : Int) (l : List Int) (s o : Nat) : jg p (a :: l) s o = bif p a then (2 * (s : Int) + 1) :: jg p l (s + 1) o else (2 * (o : Int) + 2) :: jg p l s (o + 1) := rfl
theorem ot (p : Int → Bool) : ∀ (l : List Int) (s o : Nat), (jg p l s o).length = l.length
 | [], _, _ => rfl
 | a :: l, s, o => by unfold jg; cases p a <;> simp [ot p l]
theorem ou (p : Int → Bool) : ∀ (l l' : List Int) (s o : Nat), jg p (l ++ l') s o = jg p l s o ++ jg p l' (s + (l.filter p).length) (o + (l.filter fun a => !p a).length)
 | [], _, _, _ => by simp [jg]
 | a :: l, l', s, o => by
  rw [List.cons_append, sk, sk]
  cases h : p a
  ·simp only [cond_false]
   rw [ou p l l']
   simp only [List.filter_cons, h, Bool.not_false, if_true, Bool.false_eq_true, if_false, List.length_cons, List.cons_append]
   rw [Nat.add_right_comm o 1]; rfl
  simp only [cond_true]
  rw [ou p l l']
  simp only [List.filter_cons, h, Bool.not_true, if_true, Bool.false_eq_true, if_false, List.length_cons, List.cons_append]
  rw [Nat.add_right_comm s 1]; rfl
theorem rc (p : Int → Bool) {l : List Int} {i : Nat} (h : i < l.length) (s o : Nat) : (jg p l s o).getD i 0 = bif p l[i] then 2 * ((s + ((l.take i).filter p).length : Nat) : Int) + 1 else 2 * ((o + ((l.take i).filter fun a => !p a).length : Nat) : Int) + 2 := by
 have e : l = l.take i ++ (l[i] :: l.drop (i + 1)) := by rw [← List.drop_eq_getElem_cons h, List.take_append_drop]
 have e2 : jg p l s o = jg p (l.take i) s o ++ jg p (l[i] :: l.drop (i + 1)) (s + ((l.take i).filter p).length) (o + ((l.take i).filter fun a => !p a).length) := by
  rw [← ou, ← e]
 rw [e2]
 have hl : (jg p (l.take i) s o).length = i := by rw [ot, List.length_take]; omega
 unfold List.getD
 rw [List.getElem?_append_right (by omega), hl, Nat.sub_self]
 unfold jg
 cases p l[i] <;> rfl
theorem tx (N : Nat) (hN : 5000 < N) {m : DMemory} {roots : List DValue} (hs : Small m roots) (kp : List Int) {met : List Int} {seen : List (Int × Bool)} (nx : Int) (h : Mt m met seen) : dt N ⟨m, kp, met, seen, nx⟩ = some (jg (cB m) met 0 m.Old.length) := by
 have hml := h.len hs
 have ho := hs.old
 apply Sat.eq
 unfold dt
 refine ce (fun k i (s : List Int × Nat × Nat) => minor_meeter_places_l9 N ⟨m, kp, met, seen, nx⟩ k s.1 (s.2.1 : Int) (s.2.2 : Int) (i : Int)) met.length (fun i s => s.1 = jg (cB m) (met.take i) 0 m.Old.length ∧ s.2.1 = ((met.take i).filter (cB m)).length ∧ s.2.2 = m.Old.length + ((met.take i).filter fun a => !cB m a).length) _ ?_ ?_ N 0 ([], 0, m.Old.length) (by show met.length < N + 0; omega) (by omega) ⟨rfl, rfl, rfl⟩
 ·rintro k i ⟨s, a, b⟩ hi ⟨h1, h2, h3⟩ go
  simp only at h1 h2 h3
  have l1 : ((met.take i).filter (cB m)).length ≤ i := Nat.le_trans (List.length_filter_le _ _) (by rw [List.length_take]; omega)
  have l2 : ((met.take i).filter fun a => !cB m a).length ≤ i := Nat.le_trans (List.length_filter_le _ _) (by rw [List.length_take]; omega)
  have hsl : s.length = i := by rw [h1, ot, List.length_take]; omega
  show Sat (minor_meeter_places_l9 N ⟨m, kp, met, seen, nx⟩ (k + 1) s (a : Int) (b : Int) (i : Int)) _
  have hnext : jg (cB m) (met.take (i + 1)) 0 m.Old.length = s ++ [bif cB m met[i] then 2 * (a : Int) + 1 else 2 * (b : Int) + 2] := by
   rw [bg hi, ou, ← h1, Nat.zero_add, ← h2, ← h3]
   unfold jg
   cases cB m met[i] <;> rfl
  have hf1 : ((met.take (i + 1)).filter (cB m)).length = a + (bif cB m met[i] then 1 else 0) := by
   rw [bg hi, List.filter_append, List.length_append, ← h2]
   cases hb : cB m met[i] <;> simp [hb]
  have hf2 : ((met.take (i + 1)).filter fun a => !cB m a).length + m.Old.length = b + (bif cB m met[i] then 0 else 1) := by
   rw [bg hi, List.filter_append, List.length_append, h3]
   cases hb : cB m met[i] <;> simp [hb] <;> omega
  have hcell := jl N hs kp met seen nx (h.has _ (List.getElem_mem hi))
  rw [minor_meeter_places_l9.eq_2]
  dsimp only
  rw [cy (by omega), ct, aY hi, bs, hcell, bs]
  unfold cQ
  have e : decide ((cU m met[i]).Age = 0) = cB m met[i] := rfl
  rw [e, r64 (by omega) (by omega), r64 (by omega) (by omega), rF (by simp; omega), r64 (by omega) (by omega), r64 (by omega) (by omega), r64 (by omega) (by omega), r64 (by omega) (by omega), rF (by simp; omega), r64 (by omega) (by omega), r64 (by omega) (by omega)]
  cases hb : cB m met[i]
  ·rw [hb] at hnext hf1 hf2
   rw [cf]
   exact go (s ++ [2 * (b : Int) + 2], a, b + 1) ⟨hnext.symm, hf1.symm, by show b + 1 = _; simp only [cond_false] at hf2; omega⟩
  rw [hb] at hnext hf1 hf2
  rw [ct]
  exact go (s ++ [2 * (a : Int) + 1], a + 1, b) ⟨hnext.symm, hf1.symm, by show b = _; simp only [cond_true] at hf2; omega⟩
 rintro k ⟨s, a, b⟩ ⟨h1, h2, h3⟩
 simp only [List.take_length] at h1 h2 h3
 show Sat (minor_meeter_places_l9 N ⟨m, kp, met, seen, nx⟩ (k + 1) s (a : Int) (b : Int) _) _
 rw [minor_meeter_places_l9.eq_2]
 dsimp only
 rw [ci (by omega), cf]
 exact aP h1
theorem rE {lv : List Int} : ∀ {l : List DValue}, iF l = true → kd lv l → dy (fun x => decide (x ∈ lv)) l = l
 | [], _, _ => rfl
 | [_], h, _ => by cases h
 | k :: v :: r, h, ha => by
  rw [fQ] at h
  simp only [Bool.and_eq_true, decide_eq_true_eq] at h
  have hk : k.N ∈ lv := ha k (by simp) (by unfold bn; rw [h.1.1]; rfl)
  rw [mi, decide_eq_true hk, cond_true, rE h.2 fun w hw => ha w (by simp [hw])]; rfl
theorem uP {lv : List Int} (cb : DValue) : ∀ {l : List DValue}, fu l = true → kd lv l → cR lv l = l ∧ iZ lv cb l = []
 | [], _, _ => ⟨rfl, rfl⟩
 | [_], h, _ => by cases h
 | [_, _], h, _ => by cases h
 | [_, _, _], h, _ => by cases h
 | t :: a :: k :: s :: r, h, ha => by
  rw [fP] at h
  simp only [Bool.and_eq_true, decide_eq_true_eq] at h
  obtain ⟨⟨⟨h1, -⟩, h3, h4⟩, h5⟩ := h
  obtain ⟨i1, i2⟩ := uP cb h5 fun w hw => ha w (by simp [hw])
  have ht : t.N ∈ lv := ha t (by simp) (by unfold bn; rw [h1]; rfl)
  have hk : (decide (k.Kind = 7) && !decide (k.N ∈ lv)) = false := by
   by_cases hk7 : k.Kind = 7
   ·rw [decide_eq_true (ha k (by simp) (by unfold bn; rw [hk7]; rfl)), Bool.not_true, Bool.and_false]
   rw [decide_eq_false hk7, Bool.false_and]
  rw [kR, vD, i1, i2, decide_eq_true ht, hk]
  exact ⟨rfl, rfl⟩
theorem CellOk.id {N : Nat} {lv f : List Int} {c : DCell} (h : CellOk N lv f c) (ha : ∀ x ∈ ey c, x ∈ lv) : ke N lv c = c ∧ gy lv c = [] := by
 have hin : kd lv c.More := fun v hv hb => ha _ (ua (List.mem_append_right _ hv) hb)
 by_cases h8 : c.Kind = 8
 ·rw [h.clC8 h8, rE (h.ent2 h8) hin]
  exact ⟨rfl, by unfold gy; rw [decide_eq_false (by omega)]; rfl⟩
 by_cases h10 : c.Kind = 10
 ·obtain ⟨-, -, h4⟩ := h.ent4 h10
  obtain ⟨i1, i2⟩ := uP (lv := lv) (c.More.headD fR) h4 fun v hv => hin v (List.mem_of_mem_drop hv)
  rw [CellOk.clC10 h10, i1, List.take_append_drop]
  refine ⟨rfl, ?_⟩
  unfold gy mj
  rw [decide_eq_true h10]
  exact i2
 exact ⟨CellOk.clC0 h8 h10, by unfold gy; rw [decide_eq_false h10]; rfl⟩
theorem pS (N : Nat) (hN : 5000 < N) {lv f : List Int} {c : DCell} (h : CellOk N lv f c) (hl : lv.length ≤ 5000) (gone : List DValue) (hg : gone.length ≤ 10000) : fF N c lv gone = some (ke N lv c, gone ++ gy lv c) := by
 have hlen := (mL N lv c).2
 have hm := h.more
 unfold fF
 by_cases h8 : c.Kind = 8
 ·rw [decide_eq_true h8, ct, wn N hN lv hl c h.slots h.more, h.wm, bs]
  unfold ke gy
  rw [decide_eq_true h8, decide_eq_false (p := c.Kind = 10) (by omega), cond_true, cond_true, cond_false, List.append_nil]
 rw [decide_eq_false h8, cf]
 by_cases h10 : c.Kind = 10
 ·have e1 : ke N lv c = (mj lv c).1 := by unfold ke; rw [decide_eq_false h8, decide_eq_true h10]; rfl
  have e2 : gy lv c = (mj lv c).2 := by unfold gy; rw [decide_eq_true h10]; rfl
  rw [decide_eq_true h10, ct, r7 N hN lv hl c h.slots h.more, h.fr, decide_eq_true h10, cond_true, bs, ← e1, ← e2, rF (by omega)]
 rw [decide_eq_false h10, cf, CellOk.clC0 h8 h10]
 unfold gy
 rw [decide_eq_false h10, cond_false, List.append_nil]
structure MinCtx (N : Nat) (m : DMemory) (roots : List DValue) (kept met : List Int) : Prop where
 big : 5000 < N
 small : Small m roots
 w64 : W64 m
 r64 : ∀ v ∈ roots, aK v.N
 tot : cp (fun a => (cU m a).More.length) (t8 m) ≤ 3600
 klen : kept.length ≤ 1200
 may : uL N m roots kept = true
 prog : ∃ seen nx, fY N m roots kept = some ⟨m, kept, met, seen, nx⟩ ∧ Mt m met seen
 isM : ∃ b, IsMinor (xZ N m) (bf m.Old.length) kept (qK m roots kept) b met
theorem pn {N : Nat} {m : DMemory} {roots : List DValue} {kept : List Int} (h : uL N m roots kept = true) : kx N m roots = true ∧ jT m kept = true ∧ rg m kept = true := by
 unfold uL at h
 unfold kx
 simp only [Bool.and_eq_true] at h ⊢
 exact ⟨h.1.1, h.1.2, h.2⟩
theorem ru {m : DMemory} {kept : List Int} (h : jT m kept = true) {a : Int} (ha : a ∈ kept) : bS m a = true ∧ yB a = false := by
 unfold jT at h
 rw [Bool.and_eq_true] at h
 have := mR h.1 ha
 rw [Bool.and_eq_true] at this
 exact ⟨this.2, by cases hy : yB a; rfl; rw [hy] at this; cases this.1⟩
theorem AK {N : Nat} (hN : 5000 < N) {m : DMemory} {roots : List DValue} (hs : Small m roots) (hw : W64 m) (hr : ∀ v ∈ roots, aK v.N) (ht : cp (fun a => (cU m a).More.length) (t8 m) ≤ 3600) {kept : List Int} (hk : kept.length ≤ 1200) (hm : uL N m roots kept = true) : ∃ met, MinCtx N m roots kept met := by
 obtain ⟨h1, h2, -⟩ := pn hm
 obtain ⟨g1, g2, -⟩ := oM h1
 obtain ⟨r, e, seen, nx, b, e2, h3, h4⟩ := xU N hN hs g1 g2 kept (fun x hx => (ru h2 hx).1) hk
 exact ⟨r.met_, hN, hs, hw, hr, ht, hk, hm, ⟨seen, nx, by rw [e, ← e2], h3⟩, ⟨b, h4⟩⟩
def dx (m : DMemory) (met : List Int) : List Int := bf m.Old.length ++ met
def rS (m : DMemory) (met : List Int) : List Int := jg (cB m) met 0 m.Old.length
def dW (m : DMemory) (met : List Int) : Int → Int := nX met (rS m met)
def nC (N : Nat) (m : DMemory) (met : List Int) (a : Int) : DCell := iN (dW m met) met (ke N (dx m met) (cU m a))
def nY (N : Nat) (m : DMemory) (met : List Int) (a : Int) : DCell := ⟨(nC N m met a).Kind, (nC N m met a).Shape, (nC N m met a).Flags, 1, (nC N m met a).Slots, (nC N m met a).More⟩
def fO (N : Nat) (m : DMemory) (met : List Int) : DMemory := ⟨(met.filter (cB m)).map (nY N m met), (bf m.Old.length).map (nC N m met) ++ (met.filter fun a => !cB m a).map (nY N m met)⟩
def BM (m : DMemory) (met : List Int) : List DValue := (dx m met).flatMap fun a => gy (dx m met) (cU m a)
section
variable {N : Nat} {m : DMemory} {roots : List DValue} {kept met : List Int} (h : MinCtx N m roots kept met)
include h
theorem MinCtx.whole : Whole m := (oM (pn h.may).1).1
theorem MinCtx.rootsH : ∀ x ∈ cw roots, bS m x = true := (oM (pn h.may).1).2.1
theorem MinCtx.mt : met.Nodup ∧ (∀ x ∈ met, yB x = true) ∧ ∀ x ∈ met, bS m x = true := by
 obtain ⟨_, _, -, h2⟩ := h.prog
 exact ⟨h2.nd, h2.yng, h2.has⟩
theorem MinCtx.mlen : met.length ≤ 1200 := by
 obtain ⟨_, _, -, h2⟩ := h.prog
 exact h2.len h.small
theorem MinCtx.f1has {a : Int} (ha : a ∈ dx m met) : bS m a = true := by
 unfold dx at ha
 rcases List.mem_append.1 ha with ha | ha
 ·obtain ⟨i, hi, rfl⟩ := cS.1 ha
  rw [tI]; exact decide_eq_true hi
 exact h.mt.2.2 a ha
theorem MinCtx.keptOf {a : Int} (ha : a ∈ bf m.Old.length) {x : Int} (hx : x ∈ ey (cU m a)) (hy : yB x = true) : a ∈ kept := by
 obtain ⟨i, hi, rfl⟩ := cS.1 ha
 have h3 := (pn h.may).2.2
 unfold rg at h3
 have := mR h3 (List.mem_range.2 hi)
 rw [List.any_eq_true.2 ⟨x, hx, hy⟩] at this
 simpa using this
theorem MinCtx.inF {a : Int} (ha : a ∈ dx m met) {x : Int} (hx : bS m x = true) (hyx : yB x = true → x ∈ met) : x ∈ dx m met := by
 have _ := h
 have _ := ha
 unfold dx
 cases hy : yB x with
 | true => exact List.mem_append_right _ (hyx hy)
 | false =>
  obtain ⟨i, hi, rfl⟩ := uR hx hy
  exact List.mem_append_left _ (cS.2 ⟨i, hi, rfl⟩)
theorem MinCtx.cell {a : Int} (ha : a ∈ dx m met) : CellOk N (dx m met) (dx m met) (cU m a) := by
 have hN := h.big
 have hh := h.f1has ha
 have hm := xy hh
 have hs := h.small.cells _ hm
 obtain ⟨b, hM⟩ := h.isM
 obtain ⟨q1, q2⟩ := hM.closed
 have hf := (oM (pn h.may).1).2.2 _ hm
 refine ⟨by omega, ?_, hs.1, hs.2, fun x hx => ?_, fun x hx => ?_, fun x => Iff.rfl⟩
 ·unfold me at hf
  rw [kF N (by omega) _ (by omega) (by omega), Bool.and_eq_true] at hf
  exact hf.1
 ·refine h.inF ha (h.whole.leads hh x hx) fun hy => ?_
  unfold dx at ha
  rcases List.mem_append.1 ha with ha | ha
  ·exact hM.start (List.mem_append_right _ (List.mem_flatMap.2 ⟨a, h.keptOf ha (List.mem_append_left _ hx) hy, hx⟩)) hy
  exact q1 a ha x hx hy
 refine h.inF ha (h.whole.opens hh x hx) fun hy => ?_
 refine q2 a ?_ x hx hy
 unfold dx at ha
 rcases List.mem_append.1 ha with ha | ha
 ·exact List.mem_append_left _ (h.keptOf ha (vT hx) hy)
 exact List.mem_append_right _ ha
theorem MinCtx.old {a : Int} (ha : a ∈ bf m.Old.length) (hk : a ∉ kept) : ke N (dx m met) (cU m a) = cU m a ∧ gy (dx m met) (cU m a) = [] := by
 have hf : a ∈ dx m met := List.mem_append_left _ ha
 refine (h.cell hf).id fun x hx => h.inF hf (h.whole a (h.f1has hf) x hx) fun hy => absurd (h.keptOf ha hx hy) hk
theorem MinCtx.nd : (dx m met).Nodup := by
 unfold dx
 refine List.nodup_append.2 ⟨?_, h.mt.1, fun a ha b hb e => ?_⟩
 ·exact (yd _).imp fun hab e => by omega
 subst e
 obtain ⟨i, -, rfl⟩ := cS.1 ha
 have := h.mt.2.1 _ hb
 rw [nQ] at this; cases this
theorem MinCtx.goneLen : ∀ l : List Int, l.Nodup → (∀ a ∈ l, a ∈ dx m met) → (l.flatMap fun a => gy (dx m met) (cU m a)).length ≤ 3600 := by
 intro l hn hl
 have h1 := qJ (fun a => (cU m a).More.length) hn fun a ha => uH (h.f1has (hl a ha))
 have h2 : ∀ l : List Int, (l.flatMap fun a => gy (dx m met) (cU m a)).length ≤ cp (fun a => (cU m a).More.length) l := fun l => by
  induction l with
  | nil => simp [cp]
  | cons a l ih =>
   have := (mL N (dx m met) (cU m a)).2
   rw [List.flatMap_cons, List.length_append, cp]; omega
 have := h2 l
 have := h.tot
 omega
end
end Go.Proofs.Ytmbaennilhdieaa
namespace Go.Proofs.Ytmbaennilhdieaa
open Go.RowKit
theorem sf {α β : Type} (f : α → List β) {l : List α} {i : Nat} (h : i < l.length) : (l.take (i + 1)).flatMap f = (l.take i).flatMap f ++ f l[i] := by
 rw [bg h, List.flatMap_append, List.flatMap_cons, List.flatMap_nil, List.append_nil]
theorem yz {α β : Type} (f : α → β) {l : List α} {i : Nat} (h : i < l.length) : (l.take (i + 1)).map f = (l.take i).map f ++ [f l[i]] := by
 rw [bg h, List.map_append]; rfl
theorem pI {α : Type} (p : α → Bool) {l : List α} {i : Nat} (h : i < l.length) : (l.take (i + 1)).filter p = (l.take i).filter p ++ (bif p l[i] then [l[i]] else []) := by
 rw [bg h, List.filter_append]
 cases hp : p l[i] <;> simp [hp]
section
variable {N : Nat} {m : DMemory} {roots : List DValue} {kept met : List Int} (h : MinCtx N m roots kept met)
include h
theorem MinCtx.f1len : (dx m met).length ≤ 1800 := by
 have h1 := h.mlen
 have h2 := h.small.old
 unfold dx bf
 rw [List.length_append, List.length_map, List.length_range]; omega
theorem zf : cT N m roots kept = some (fO N m met, roots.map (dw (dW m met) met), (BM m met).map (dw (dW m met) met), 0) := by
 have hN := h.big
 have hs := h.small
 have hml := h.mlen
 have ho := hs.old
 have hrl := hs.roots
 have hfl := h.f1len
 obtain ⟨hnd, hyng, hhas⟩ := h.mt
 obtain ⟨seen, nx, hp, hmt⟩ := h.prog
 have hto : (rS m met).length = met.length := ot _ _ _ _
 have hev : (bf m.Old.length).length = m.Old.length := by unfold bf; simp
 obtain ⟨hfine, hkok, -⟩ := pn h.may
 have k64 : ∀ x ∈ kept, aK x := fun x hx => wZ hs (ru hkok hx).1
 have hkl := h.klen
 have hgl : ∀ l : List Int, l.Nodup → (∀ a ∈ l, a ∈ dx m met) → (l.flatMap fun a => gy (dx m met) (cU m a)).length ≤ 3600 := h.goneLen
 have tk : ∀ i, ((bf m.Old.length).take i).flatMap (fun a => gy (dx m met) (cU m a)) = ((bf m.Old.length).take i).flatMap fun a => gy (dx m met) (cU m a) := fun i => rfl
 have g1 : ∀ i, (((bf m.Old.length).take i).flatMap fun a => gy (dx m met) (cU m a)).length ≤ 3600 := fun i => hgl _ (List.Nodup.sublist (List.take_sublist _ _) (List.nodup_append.1 h.nd).1) fun a ha => List.mem_append_left _ (List.mem_of_mem_take ha)
 have g2 : ∀ i, ((bf m.Old.length ++ met.take i).flatMap fun a => gy (dx m met) (cU m a)).length ≤ 3600 := fun i => hgl _ (List.Nodup.sublist (List.Sublist.append (List.Sublist.refl _) (List.take_sublist i met)) h.nd) fun a ha => (List.mem_append.1 ha).elim (fun h => List.mem_append_left _ h) fun h => List.mem_append_right _ (List.mem_of_mem_take h)
 have moved : ∀ a ∈ dx m met, ∀ d : DCell, d.Slots.length ≤ 600 → d.More.length ≤ 600 → dN N d met (rS m met) = some (iN (dW m met) met d) := fun a _ d h1 h2 => pW N hN d (by omega) (by omega) met (rS m met) hnd hto hml
 -- the young cells
 have young : ∀ O : List DCell, O.length ≤ 600 → Sat (minor_Collect_l71 N ⟨m, kept, met, seen, nx⟩ roots (rS m met) (dx m met) N ((bf m.Old.length).flatMap fun a => gy (dx m met) (cU m a)) 0 [] O) fun r => r = (⟨(met.filter (cB m)).map (nY N m met), O ++ (met.filter fun a => !cB m a).map (nY N m met)⟩, roots.map (dw (dW m met) met), (BM m met).map (dw (dW m met) met), 0) := by
  intro O hO
  refine ce (fun k i (s : List DValue × List DCell × List DCell) => minor_Collect_l71 N ⟨m, kept, met, seen, nx⟩ roots (rS m met) (dx m met) k s.1 (i : Int) s.2.1 s.2.2) met.length (fun i s => s.1 = (bf m.Old.length ++ met.take i).flatMap (fun a => gy (dx m met) (cU m a)) ∧ s.2.1 = ((met.take i).filter (cB m)).map (nY N m met) ∧ s.2.2 = O ++ ((met.take i).filter fun a => !cB m a).map (nY N m met)) _ ?_ ?_ N 0 (_, [], O) (by omega) (by omega) ⟨by rw [List.take_zero, List.append_nil]; rfl, rfl, by simp⟩
  ·rintro k i ⟨g, Y, Q⟩ hi ⟨h1, h2, h3⟩ go
   simp only at h1 h2 h3
   show Sat (minor_Collect_l71 N ⟨m, kept, met, seen, nx⟩ roots (rS m met) (dx m met) (k + 1) g (i : Int) Y Q) _
   have hgm : met[i] ∈ met := List.getElem_mem hi
   have hgf : met[i] ∈ dx m met := List.mem_append_right _ hgm
   have hc := h.cell hgf
   have hcl := mL N (dx m met) (cU m met[i])
   have hc1 := hc.slots
   have hc2 := hc.more
   have hgt : g.length ≤ 3600 := by rw [h1]; exact g2 i
   have hYl : Y.length ≤ i := by rw [h2, List.length_map]; exact Nat.le_trans (List.length_filter_le _ _) (by rw [List.length_take]; omega)
   have hQl : Q.length ≤ 600 + i := by
    rw [h3, List.length_append, List.length_map]
    have := List.length_filter_le (fun a => !cB m a) (met.take i)
    rw [List.length_take] at this; omega
   have hti : i < (rS m met).length := by omega
   have htv : (rS m met)[i] = bif cB m met[i] then 2 * ((0 + ((met.take i).filter (cB m)).length : Nat) : Int) + 1 else 2 * ((m.Old.length + ((met.take i).filter fun a => !cB m a).length : Nat) : Int) + 2 := by
    have := rc (cB m) hi 0 m.Old.length
    unfold List.getD at this
    have e : (jg (cB m) met 0 m.Old.length)[i]? = some (rS m met)[i] := List.getElem?_eq_getElem hti
    rw [e] at this
    exact this
   have hyt : yB (rS m met)[i] = cB m met[i] := by
    rw [htv]
    cases cB m met[i]
    ·exact nQ _
    exact sX _
   rw [minor_Collect_l71.eq_2]
   dsimp only
   rw [cy (by omega), ct, aY hi, bs, jl N hs kept met seen nx (h.f1has hgf), bs, pS N hN hc (by omega) g (by omega), bs]
   dsimp only
   rw [moved _ hgf _ (by omega) (by omega), bs, aY hti, bs, iW, bs, hyt]
   unfold eK
   rw [r64 (by omega) (by omega), r64 (by omega) (by omega), rF (by simp; omega), rF (by simp; omega)]
   have hg' : g ++ gy (dx m met) (cU m met[i]) = (bf m.Old.length ++ met.take (i + 1)).flatMap fun a => gy (dx m met) (cU m a) := by
    rw [h1, List.flatMap_append, List.flatMap_append, sf _ hi, List.append_assoc]
   have hf1 := pI (cB m) hi
   have hf2 := pI (fun a => !cB m a) hi
   cases hb : cB m met[i]
   ·rw [hb] at hf1
    simp only [hb, Bool.not_false, cond_true, cond_false, List.append_nil] at hf1 hf2
    rw [cf]
    exact go (_, Y, _) ⟨hg', by show Y = _; rw [hf1]; exact h2, by show Q ++ [nY N m met met[i]] = _; rw [hf2, List.map_append, h3, List.append_assoc]; rfl⟩
   rw [hb] at hf1
   simp only [hb, Bool.not_true, cond_true, cond_false, List.append_nil] at hf1 hf2
   rw [ct]
   exact go (_, _, Q) ⟨hg', by show Y ++ [nY N m met met[i]] = _; rw [hf1, List.map_append, h2]; rfl, by show Q = _; rw [hf2]; exact h3⟩
  rintro k ⟨g, Y, Q⟩ ⟨h1, h2, h3⟩
  simp only [List.take_length] at h1 h2 h3
  show Sat (minor_Collect_l71 N ⟨m, kept, met, seen, nx⟩ roots (rS m met) (dx m met) (k + 1) g _ Y Q) _
  have hgt : g.length ≤ 3600 := by rw [h1]; have := g2 met.length; rwa [List.take_length] at this
  rw [minor_Collect_l71.eq_2]
  dsimp only
  rw [ci (by omega), cf]
  unfold gn
  dsimp only
  rw [pR N hN roots (by omega) met (rS m met) hnd hto hml, bs, pR N hN g (by omega) met (rS m met) hnd hto hml, bs, h2, h3]
  refine aP ?_
  rw [h1]; rfl
 apply Sat.eq
 unfold cT
 rw [sw N hN hs h.w64 h.r64 kept (by omega) k64, h.may, bs, nt, cf, hp, bs, tx N hN hs kept nx hmt, bs, rj N hN hs kept nx hmt, bs]
 refine ce (fun k i (s : List DValue × List DCell) => minor_Collect_l28 N m roots kept (rS m met) ⟨m, kept, met, seen, nx⟩ k s.1 (dx m met) (i : Int) s.2) m.Old.length (fun i s => s.1 = ((bf m.Old.length).take i).flatMap (fun a => gy (dx m met) (cU m a)) ∧ s.2 = ((bf m.Old.length).take i).map (nC N m met)) _ ?_ ?_ N 0 ([], []) (by omega) (by omega) ⟨rfl, rfl⟩
 ·rintro k i ⟨g, O⟩ hi ⟨h1, h2⟩ go
  simp only at h1 h2
  show Sat (minor_Collect_l28 N m roots kept (rS m met) ⟨m, kept, met, seen, nx⟩ (k + 1) g (dx m met) (i : Int) O) _
  have hie : i < (bf m.Old.length).length := by omega
  have hei : (bf m.Old.length)[i] = 2 * (i : Int) + 2 := px hie
  have hae : (2 * (i : Int) + 2) ∈ bf m.Old.length := cS.2 ⟨i, hi, rfl⟩
  have haf : (2 * (i : Int) + 2) ∈ dx m met := List.mem_append_left _ hae
  have hc := h.cell haf
  have hcl := mL N (dx m met) (cU m (2 * (i : Int) + 2))
  have hc1 := hc.slots
  have hc2 := hc.more
  have hgt : g.length ≤ 3600 := by rw [h1]; exact g1 i
  have hOl : O.length ≤ i := by rw [h2, List.length_map, List.length_take]; omega
  have hold := h.old hae
  have n1 : ((bf m.Old.length).take (i + 1)).flatMap (fun a => gy (dx m met) (cU m a)) = g ++ gy (dx m met) (cU m (2 * (i : Int) + 2)) := by rw [sf _ hie, hei, h1]
  have n2 : ((bf m.Old.length).take (i + 1)).map (nC N m met) = O ++ [nC N m met (2 * (i : Int) + 2)] := by rw [yz _ hie, hei, h2]
  rw [pZ m i hi] at hc hcl hc1 hc2 hold n1
  have hnc : nC N m met (2 * (i : Int) + 2) = iN (dW m met) met (ke N (dx m met) m.Old[i]) := by unfold nC; rw [pZ m i hi]
  have body : ∀ (kb : List DValue → List Int → Int → List DCell → Option (DMemory × List DValue × List DValue × Int)) (g' : List DValue) (d : DCell), d.Slots.length ≤ 600 → d.More.length ≤ 600 → dI N kb m (i : Int) roots kept (rS m met) (dx m met) O ⟨m, kept, met, seen, nx⟩ g' d.Kind d.Shape d.Flags d.Age d.Slots d.More = kb g' (dx m met) ((i : Int) + 1) (O ++ [iN (dW m met) met d]) := by
   intro kb g' d d1 d2
   have := moved _ haf d d1 d2
   unfold dI
   dsimp only
   have e : dN N ⟨d.Kind, d.Shape, d.Flags, d.Age, d.Slots, d.More⟩ met (rS m met) = some (iN (dW m met) met d) := this
   rw [e, bs, rF (by simp; omega), r64 (by omega) (by omega)]
  rw [minor_Collect_l28.eq_2, cy (by omega), ct, aY hi, bs, r64 (by omega) (by omega), r64 (by omega) (by omega), gU N hN kept (by omega), bs]
  by_cases hk : (2 * (i : Int) + 2) ∈ kept
  ·rw [decide_eq_true hk, ct, pS N hN hc (by omega) g (by omega), bs]
   dsimp only
   rw [body _ _ _ (by omega) (by omega)]
   exact go (_, _) ⟨n1.symm, by rw [n2, hnc]⟩
  obtain ⟨o1, o2⟩ := hold hk
  rw [decide_eq_false hk, cf, body _ _ _ (by omega) (by omega)]
  exact go (g, _) ⟨by rw [n1, o2, List.append_nil], by rw [n2, hnc, o1]⟩
 rintro k ⟨g, O⟩ ⟨h1, h2⟩
 have etl : (bf m.Old.length).take m.Old.length = bf m.Old.length := List.take_of_length_le (by omega)
 simp only [etl] at h1 h2
 show Sat (minor_Collect_l28 N m roots kept (rS m met) ⟨m, kept, met, seen, nx⟩ (k + 1) g (dx m met) _ O) _
 rw [minor_Collect_l28.eq_2, ci (by omega), cf]
 unfold gp
 rw [h1]
 have hOl : O.length ≤ 600 := by rw [h2, List.length_map]; omega
 have := young O hOl
 rw [h2] at this ⊢
 exact this
end
end Go.Proofs.Ytmbaennilhdieaa
namespace Go.Proofs.Ytmbaennilhdieaa
open Go.RowKit
theorem xa : ∀ {A B : List Int} {x : Int}, x ∉ A → (A ++ x :: B).idxOf x = A.length
 | [], B, x, _ => by simp
 | a :: A, B, x, h => by
  have h1 : a ≠ x := fun e => h (by simp [e])
  rw [List.cons_append, List.idxOf_cons, xa fun hx => h (by simp [hx])]
  have : (a == x) = false := beq_eq_false_iff_ne.2 h1
  rw [this]; rfl
theorem uV {l : List Int} (hn : l.Nodup) (p : Int → Bool) {i : Nat} (h : i < l.length) (hp : p l[i] = true) : (l.filter p).idxOf l[i] = ((l.take i).filter p).length := by
 have e : l.filter p = (l.take i).filter p ++ l[i] :: (l.drop (i + 1)).filter p := by
  have e1 : l = l.take i ++ (l[i] :: l.drop (i + 1)) := by rw [← List.drop_eq_getElem_cons h, List.take_append_drop]
  have e2 : l.filter p = (l.take i).filter p ++ (l[i] :: l.drop (i + 1)).filter p := by rw [← List.filter_append, ← e1]
  rw [e2, List.filter_cons, hp, if_pos rfl]
 rw [e]
 exact xa fun hm => rh hn h (List.mem_filter.1 hm).1
def vK (c : DCell) (g : Int) : DCell := ⟨c.Kind, c.Shape, c.Flags, g, c.Slots, c.More⟩
theorem te {c : DCell} (h : dk c = true) : dk (vK c 1) = true := by
 unfold dk at h ⊢
 unfold vK
 simp only [Bool.and_eq_true] at h ⊢
 obtain ⟨⟨⟨⟨⟨⟨⟨h1, h2⟩, h3⟩, h4⟩, h5⟩, -⟩, -⟩, h8⟩ := h
 exact ⟨⟨⟨⟨⟨⟨⟨h1, h2⟩, h3⟩, h4⟩, h5⟩, rfl⟩, rfl⟩, h8⟩
structure VCell (N : Nat) (c : DCell) : Prop where
 big : 2000 < N
 right : dk c = true
 slots : c.Slots.length ≤ 600
 more : c.More.length ≤ 600
theorem Aa (m : DMemory) {i : Nat} {c : DCell} (h : m.Old[i]? = some c) : bS m (2 * (i : Int) + 2) = true ∧ cU m (2 * (i : Int) + 2) = c := by
 obtain ⟨h1, h2⟩ := List.getElem?_eq_some_iff.1 h
 exact ⟨by rw [tI]; exact decide_eq_true h1, by rw [pZ m i h1]; exact h2⟩
theorem CL (m : DMemory) {i : Nat} {c : DCell} (h : m.Young[i]? = some c) : bS m (2 * (i : Int) + 1) = true ∧ cU m (2 * (i : Int) + 1) = c := by
 obtain ⟨h1, h2⟩ := List.getElem?_eq_some_iff.1 h
 exact ⟨by rw [ry]; exact decide_eq_true h1, by rw [xx m i h1]; exact h2⟩
theorem uQ {f : List Int} {a : Int} (h : a ∈ f) : f[f.idxOf a]? = some a := List.getElem?_eq_some_iff.2 ⟨nH h, kT h⟩
section
variable {N : Nat} {m : DMemory} {roots : List DValue} {kept met : List Int} (h : MinCtx N m roots kept met)
include h
theorem MinCtx.rhoE {a : Int} (ha : a ∈ bf m.Old.length) : dW m met a = a := by
 have hn : a ∉ met := fun hm => (List.nodup_append.1 h.nd).2.2 a ha a hm rfl
 unfold dW nX
 rw [if_neg hn]
theorem MinCtx.rhoY {a : Int} (ha : a ∈ met) (hp : cB m a = true) : dW m met a = 2 * (((met.filter (cB m)).idxOf a : Nat) : Int) + 1 := by
 obtain ⟨i, hi, rfl⟩ := List.getElem_of_mem ha
 unfold dW nX rS
 rw [if_pos ha, pj h.mt.1 hi, rc _ hi, hp, uV h.mt.1 _ hi hp, cond_true, Nat.zero_add]
theorem MinCtx.rhoO {a : Int} (ha : a ∈ met) (hp : cB m a = false) : dW m met a = 2 * ((m.Old.length + (met.filter fun a => !cB m a).idxOf a : Nat) : Int) + 2 := by
 obtain ⟨i, hi, rfl⟩ := List.getElem_of_mem ha
 unfold dW nX rS
 rw [if_pos ha, pj h.mt.1 hi, rc _ hi, hp, uV h.mt.1 (fun a => !cB m a) hi (by rw [hp]; rfl), cond_false]
theorem MinCtx.cases {a : Int} (ha : a ∈ dx m met) : (a ∈ bf m.Old.length ∧ dW m met a = a) ∨ (a ∈ met ∧ cB m a = true ∧ a ∈ met.filter (cB m)) ∨ (a ∈ met ∧ cB m a = false ∧ a ∈ met.filter fun a => !cB m a) := by
 unfold dx at ha
 rcases List.mem_append.1 ha with ha | ha
 ·exact .inl ⟨ha, h.rhoE ha⟩
 cases hp : cB m a with
 | true => exact .inr (.inl ⟨ha, rfl, List.mem_filter.2 ⟨ha, hp⟩⟩)
 | false => exact .inr (.inr ⟨ha, rfl, List.mem_filter.2 ⟨ha, by rw [hp]; rfl⟩⟩)
theorem MinCtx.ren : Ren (dW m met) (dx m met) := by
 refine ⟨fun a b ha hb e => ?_, fun a ha => ?_⟩
 ·rcases h.cases ha with ⟨a1, a2⟩ | ⟨a1, a2, a3⟩ | ⟨a1, a2, a3⟩ <;> rcases h.cases hb with ⟨b1, b2⟩ | ⟨b1, b2, b3⟩ | ⟨b1, b2, b3⟩
  ·rw [a2, b2] at e; exact e
  ·obtain ⟨i, -, rfl⟩ := cS.1 a1
   rw [a2, h.rhoY b1 b2] at e; omega
  ·obtain ⟨i, hi, rfl⟩ := cS.1 a1
   rw [a2, h.rhoO b1 b2] at e; omega
  ·obtain ⟨i, -, rfl⟩ := cS.1 b1
   rw [b2, h.rhoY a1 a2] at e; omega
  ·rw [h.rhoY a1 a2, h.rhoY b1 b2] at e
   have e2 : (met.filter (cB m)).idxOf a = (met.filter (cB m)).idxOf b := by omega
   rw [← kT a3, ← kT b3]; simp only [e2]
  ·rw [h.rhoY a1 a2, h.rhoO b1 b2] at e; omega
  ·obtain ⟨i, hi, rfl⟩ := cS.1 b1
   rw [b2, h.rhoO a1 a2] at e; omega
  ·rw [h.rhoO a1 a2, h.rhoY b1 b2] at e; omega
  rw [h.rhoO a1 a2, h.rhoO b1 b2] at e
  have e2 : (met.filter fun a => !cB m a).idxOf a = (met.filter fun a => !cB m a).idxOf b := by omega
  rw [← kT a3, ← kT b3]; simp only [e2]
 rcases h.cases ha with ⟨a1, a2⟩ | ⟨a1, a2, a3⟩ | ⟨a1, a2, a3⟩
 ·obtain ⟨i, -, rfl⟩ := cS.1 a1; omega
 ·rw [h.rhoY a1 a2]; omega
 rw [h.rhoO a1 a2]; omega
end
def Bz (N : Nat) (m : DMemory) (met : List Int) (a : Int) : Int := if a ∈ met then 1 else (nC N m met a).Age
def jM (N : Nat) (m : DMemory) (met : List Int) (a : Int) : DCell := vK (nC N m met a) (Bz N m met a)
theorem ri {m : DMemory} {met : List Int} (v : DValue) : dw (dW m met) (dx m met) v = dw (dW m met) met v := by
 unfold dw dx
 cases hb : bn v
 ·rfl
 rw [Bool.true_and, Bool.true_and]
 by_cases h : v.N ∈ met
 ·rw [decide_eq_true h, decide_eq_true (List.mem_append_right _ h)]
 rw [decide_eq_false h]
 have e : dW m met v.N = v.N := by unfold dW nX; rw [if_neg h]
 rw [e]
 cases decide (v.N ∈ bf m.Old.length ++ met) <;> rfl
theorem uG {m : DMemory} {met : List Int} (c : DCell) : iN (dW m met) met c = iN (dW m met) (dx m met) c := by
 unfold iN
 rw [List.map_congr_left fun v _ => (ri v).symm, List.map_congr_left (l := c.More) fun v _ => (ri v).symm]
section
variable {N : Nat} {m : DMemory} {roots : List DValue} {kept met : List Int} (h : MinCtx N m roots kept met)
include h
theorem MinCtx.cellE {a : Int} (ha : a ∈ bf m.Old.length) : jM N m met a = nC N m met a := by
 have hn : a ∉ met := fun hm => (List.nodup_append.1 h.nd).2.2 a ha a hm rfl
 unfold jM Bz
 rw [if_neg hn]; rfl
theorem vo {a : Int} (ha : a ∈ met) : jM N m met a = nY N m met a := by
 have _ := h
 unfold jM Bz
 rw [if_pos ha]; rfl
theorem MinCtx.at_ {a : Int} (ha : a ∈ dx m met) : bS (fO N m met) (dW m met a) = true ∧ cU (fO N m met) (dW m met a) = jM N m met a := by
 have hev : (bf m.Old.length).length = m.Old.length := by unfold bf; simp
 have hml : ((bf m.Old.length).map (nC N m met)).length = m.Old.length := by rw [List.length_map]; exact hev
 rcases h.cases ha with ⟨a1, a2⟩ | ⟨a1, a2, a3⟩ | ⟨a1, a2, a3⟩
 ·rw [a2, h.cellE a1]
  obtain ⟨i, hi, rfl⟩ := cS.1 a1
  refine Aa _ ?_
  show ((bf m.Old.length).map (nC N m met) ++ (met.filter fun a => !cB m a).map (nY N m met))[i]? = _
  rw [List.getElem?_append_left (by omega), List.getElem?_map, List.getElem?_eq_getElem (by omega : i < (bf m.Old.length).length), px]; rfl
 ·rw [h.rhoY a1 a2, vo h a1]
  refine CL _ ?_
  show ((met.filter (cB m)).map (nY N m met))[_]? = _
  rw [List.getElem?_map, uQ a3]; rfl
 rw [h.rhoO a1 a2, vo h a1]
 refine Aa _ ?_
 show ((bf m.Old.length).map (nC N m met) ++ (met.filter fun a => !cB m a).map (nY N m met))[_]? = _
 rw [List.getElem?_append_right (by omega), hml, Nat.add_sub_cancel_left, List.getElem?_map, uQ a3]; rfl
theorem MinCtx.okN {a : Int} (ha : a ∈ dx m met) : VCell N (nC N m met a) ∧ VCell N (jM N m met a) := by
 have hN := h.big
 obtain ⟨g1, g2, g3, -⟩ := CellOk.new h.ren (h.cell ha)
 have e : nC N m met a = iN (dW m met) (dx m met) (ke N (dx m met) (cU m a)) := uG _
 rw [← e] at g1 g2 g3
 refine ⟨⟨by omega, g1, g2, g3⟩, by omega, ?_, g2, g3⟩
 unfold jM Bz
 by_cases hm : a ∈ met
 ·rw [if_pos hm]; exact te g1
 rw [if_neg hm]; exact g1
end
end Go.Proofs.Ytmbaennilhdieaa
namespace Go.Proofs.Ytmbaennilhdieaa
open Go.RowKit
theorem sg {α : Type} (g : α → Nat) (p : α → Bool) : ∀ l : List α, cp g (l.filter p) + cp g (l.filter fun a => !p a) = cp g l
 | [] => rfl
 | a :: l => by
  have ih := sg g p l
  rw [List.filter_cons, List.filter_cons]
  cases h : p a
  ·simp only [Bool.false_eq_true, if_false, Bool.not_false, if_true, cp]; omega
  simp only [Bool.false_eq_true, if_false, Bool.not_true, if_true, cp]; omega
theorem nq {α : Type} {g h : α → Nat} : ∀ {l : List α}, (∀ x ∈ l, g x = h x) → cp g l = cp h l
 | [], _ => rfl
 | a :: l, hh => by rw [cp, cp, hh a (by simp), nq fun x hx => hh x (by simp [hx])]
theorem lD {α : Type} : ∀ l : List α, cp (fun _ => 1) l = l.length
 | [] => rfl
 | a :: l => by rw [cp, lD l, List.length_cons]; omega
section
variable {N : Nat} {m : DMemory} {roots : List DValue} {kept met : List Int} (h : MinCtx N m roots kept met)
include h
theorem MinCtx.midSum (g : DCell → Nat) : cp g (fO N m met).Young + cp g (fO N m met).Old = cp (fun a => g (jM N m met a)) (dx m met) := by
 have e1 : cp (fun a => g (jM N m met a)) (bf m.Old.length) = cp (fun a => g (nC N m met a)) (bf m.Old.length) := nq fun a ha => by rw [h.cellE ha]
 have e2 : cp (fun a => g (jM N m met a)) met = cp (fun a => g (nY N m met a)) met := nq fun a ha => by rw [vo h ha]
 have e3 := sg (fun a => g (nY N m met a)) (cB m) met
 unfold fO dx
 simp only
 rw [nV, nV, kh, kh, kh, e1, e2]
 omega
theorem MinCtx.midLe (g : DCell → Nat) (hg : ∀ a ∈ dx m met, g (jM N m met a) ≤ g (cU m a)) : cp g (fO N m met).Young + cp g (fO N m met).Old ≤ cp g m.Young + cp g m.Old := by
 have h1 := qJ (fun a => g (cU m a)) h.nd fun a ha => uH (h.f1has ha)
 have h2 := kh g (cU m) (t8 m)
 rw [vu, nV] at h2
 rw [h.midSum]
 have h3 := td hg
 omega
theorem MinCtx.cellLe {a : Int} (ha : a ∈ dx m met) : (jM N m met a).Slots.length = (cU m a).Slots.length ∧ (jM N m met a).More.length ≤ (cU m a).More.length := by
 have _ := h
 have := mL N (dx m met) (cU m a)
 show ((ke N (dx m met) (cU m a)).Slots.map _).length = _ ∧ ((ke N (dx m met) (cU m a)).More.map _).length ≤ _
 rw [List.length_map, List.length_map]
 omega
theorem MinCtx.midCnt : (fO N m met).Young.length + (fO N m met).Old.length ≤ m.Young.length + m.Old.length := by
 have := h.midLe (fun _ => 1) fun a _ => Nat.le_refl _
 rw [lD, lD, lD, lD] at this
 exact this
theorem MinCtx.midMem {c : DCell} (hc : c ∈ (fO N m met).Young ++ (fO N m met).Old) : ∃ a ∈ dx m met, c = jM N m met a := by
 unfold fO at hc
 simp only [List.mem_append, List.mem_map, List.mem_filter] at hc
 rcases hc with ⟨a, ⟨h1, -⟩, rfl⟩ | ⟨a, h1, rfl⟩ | ⟨a, ⟨h1, -⟩, rfl⟩
 ·exact ⟨a, List.mem_append_right _ h1, (vo h h1).symm⟩
 ·exact ⟨a, List.mem_append_left _ h1, (h.cellE h1).symm⟩
 exact ⟨a, List.mem_append_right _ h1, (vo h h1).symm⟩
theorem MinCtx.root {x : Int} (hx : x ∈ cw roots) : x ∈ dx m met := by
 have hh := h.rootsH x hx
 obtain ⟨b, hM⟩ := h.isM
 unfold dx
 cases hy : yB x with
 | true => exact List.mem_append_right _ (hM.start (List.mem_append_left _ hx) hy)
 | false =>
  obtain ⟨i, hi, rfl⟩ := uR hh hy
  exact List.mem_append_left _ (cS.2 ⟨i, hi, rfl⟩)
theorem MinCtx.rootIn : kd (dx m met) roots := fun v hv hb => h.root (mS.2 ⟨v, hv, hb, rfl⟩)
theorem MinCtx.nowE : roots.map (dw (dW m met) met) = roots.map (dw (dW m met) (dx m met)) := by
 have _ := h
 exact List.map_congr_left fun v _ => (ri v).symm
theorem MinCtx.rho64 {a : Int} (ha : a ∈ dx m met) : aK (dW m met a) := by
 have h1 := h.mlen
 have h2 := h.small.old
 have h3 : ∀ p : Int → Bool, (met.filter p).length ≤ 1200 := fun p => Nat.le_trans (List.length_filter_le _ _) h1
 unfold aK
 rcases h.cases ha with ⟨a1, a2⟩ | ⟨a1, a2, a3⟩ | ⟨a1, a2, a3⟩
 ·obtain ⟨i, hi, rfl⟩ := cS.1 a1
  rw [a2]; omega
 ·have := nH a3
  have := h3 (cB m)
  rw [h.rhoY a1 a2]; omega
 have := nH a3
 have := h3 fun a => !cB m a
 rw [h.rhoO a1 a2]; omega
theorem MinCtx.mov64 {v : DValue} (hv : aK v.N) : aK (dw (dW m met) (dx m met) v).N := by
 unfold dw
 cases hb : bn v && decide (v.N ∈ dx m met) with
 | false => exact hv
 | true =>
  rw [Bool.and_eq_true, decide_eq_true_eq] at hb
  exact h.rho64 hb.2
theorem MinCtx.now64 : ∀ v ∈ roots.map (dw (dW m met) (dx m met)), aK v.N := fun v hv => by
 obtain ⟨w, hw, rfl⟩ := List.mem_map.1 hv
 exact h.mov64 (h.r64 w hw)
theorem MinCtx.nCE (a : Int) : nC N m met a = iN (dW m met) (dx m met) (ke N (dx m met) (cU m a)) := by
 have _ := h
 exact uG _
theorem MinCtx.midW : W64 (fO N m met) := fun c hc v hv => by
 obtain ⟨a, ha, rfl⟩ := h.midMem hc
 have hv' : v ∈ (nC N m met a).Slots ++ (nC N m met a).More := hv
 rw [h.nCE] at hv'
 have hv2 : v ∈ ((ke N (dx m met) (cU m a)).Slots ++ (ke N (dx m met) (cU m a)).More).map (dw (dW m met) (dx m met)) := by rw [List.map_append]; exact hv'
 obtain ⟨w, hw, rfl⟩ := List.mem_map.1 hv2
 refine h.mov64 ?_
 rcases AX hw with hw | rfl
 ·exact h.w64.at_ a w hw
 show aK 0; unfold aK; omega
theorem MinCtx.midS (hcnt : m.Young.length + m.Old.length ≤ 600) (l : List DValue) (hl : l.length ≤ 600) : Small (fO N m met) l := by
 have := h.midCnt
 refine ⟨by omega, by omega, hl, fun c hc => ?_⟩
 obtain ⟨a, ha, rfl⟩ := h.midMem hc
 exact ⟨(h.okN ha).2.slots, (h.okN ha).2.more⟩
theorem MinCtx.newHas {l : List DValue} (hl : kd (dx m met) l) {v : DValue} (hv : v ∈ l.map (dw (dW m met) (dx m met))) (hb : bn v = true) : bS (fO N m met) v.N = true := by
 obtain ⟨w, hw, rfl⟩ := List.mem_map.1 hv
 rw [AG] at hb
 have := hl w hw hb
 rw [zd hb this]
 exact (h.at_ this).1
theorem MinCtx.midAddr {c : DCell} (hc : c ∈ (fO N m met).Young ++ (fO N m met).Old) : dk c = true ∧ ∀ x ∈ ey c, bS (fO N m met) x = true := by
 obtain ⟨a, ha, rfl⟩ := h.midMem hc
 refine ⟨(h.okN ha).2.right, fun x hx => ?_⟩
 have hx' : x ∈ ey (nC N m met a) := hx
 obtain ⟨v, hv, hb, rfl⟩ := ym hx'
 rw [h.nCE] at hv
 obtain ⟨i1, i2⟩ := (h.cell ha).inC
 rcases List.mem_append.1 hv with hv | hv
 ·exact h.newHas i1 hv hb
 exact h.newHas i2 hv hb
theorem MinCtx.nowHas : ∀ x ∈ cw (roots.map (dw (dW m met) (dx m met))), bS (fO N m met) x = true := fun x hx => by
 obtain ⟨v, hv, hb, rfl⟩ := mS.1 hx
 exact h.newHas h.rootIn hv hb
theorem MinCtx.midFine (hcnt : m.Young.length + m.Old.length ≤ 600) : kx N (fO N m met) (roots.map (dw (dW m met) (dx m met))) = true := by
 have hN := h.big
 have hs := h.midS hcnt [] (by simp)
 unfold kx lE
 rw [Bool.and_eq_true]
 constructor
 ·unfold dO
  rw [List.all_eq_true]
  exact h.nowHas
 rw [List.all_eq_true]
 intro c hc
 obtain ⟨g1, g2⟩ := h.midAddr hc
 have := hs.cells c hc
 unfold me
 rw [kF N (by omega) c (by omega) (by omega), g1]
 show (true && _) = true
 rw [Bool.true_and, Bool.and_eq_true]
 unfold dO
 rw [List.all_eq_true, List.all_eq_true]
 exact ⟨fun x hx => g2 x (List.mem_append_left _ hx), fun x hx => g2 x (List.mem_append_right _ hx)⟩
end
end Go.Proofs.Ytmbaennilhdieaa
namespace Go.Proofs.Ytmbaennilhdieaa
open Go.RowKit
structure MTurn (N : Nat) (m : DMemory) (roots : List DValue) : Prop where
 cnt : m.Young.length + m.Old.length ≤ 80
 rlen : roots.length ≤ 40
 cells : ∀ c ∈ m.Young ++ m.Old, c.Slots.length ≤ 20 ∧ c.More.length ≤ 40
 w64 : W64 m
 r64 : ∀ v ∈ roots, aK v.N
 fine : kx N m roots = true
theorem MTurn.small {N : Nat} {m : DMemory} {roots : List DValue} (h : MTurn N m roots) : Small m roots := by
 have h1 := h.cnt
 have h2 := h.rlen
 exact ⟨by omega, by omega, by omega, fun c hc => by have := h.cells c hc; omega⟩
theorem MTurn.tot {N : Nat} {m : DMemory} {roots : List DValue} (h : MTurn N m roots) : cp (fun a => (cU m a).More.length) (t8 m) ≤ 3600 := by
 have h2 := kh (fun c : DCell => c.More.length) (cU m) (t8 m)
 rw [vu] at h2
 have h3 : cp (fun c : DCell => c.More.length) (m.Young ++ m.Old) ≤ cp (fun _ => 40) (m.Young ++ m.Old) := td fun c hc => (h.cells c hc).2
 have h4 : ∀ l : List DCell, cp (fun _ => 40) l = 40 * l.length := fun l => by
  induction l with
  | nil => rfl
  | cons a l ih => rw [cp, ih, List.length_cons]; omega
 rw [h4, List.length_append] at h3
 have := h.cnt
 omega
theorem MTurn.step {N : Nat} (hN : 5000 < N) {m : DMemory} {roots : List DValue} (h : MTurn N m roots) : ∃ met, MinCtx N m roots (iE m) met ∧ MTurn N (fO N m met) (roots.map (dw (dW m met) (dx m met))) := by
 have hkl := @sD m
 have hc := h.cnt
 obtain ⟨met, g⟩ := AK hN h.small h.w64 h.r64 h.tot (kept := iE m) (by omega) (by rw [sx]; exact h.fine)
 have h1 := g.midCnt
 refine ⟨met, g, by omega, by rw [List.length_map]; exact h.rlen, fun c hc => ?_, g.midW, g.now64, g.midFine (by omega)⟩
 obtain ⟨a, ha, rfl⟩ := g.midMem hc
 have h2 := g.cellLe ha
 have h3 := h.cells _ (xy (g.f1has ha))
 omega
section
variable {N : Nat} {m : DMemory} {roots : List DValue} {kept met : List Int} (h : MinCtx N m roots kept met)
include h
theorem Cg : ∀ c ∈ (fO N m met).Young, c.Age = 1 := fun c hc => by
 have _ := h
 obtain ⟨a, -, rfl⟩ := List.mem_map.1 hc
 rfl
theorem Cf (ha : ∀ c ∈ m.Young, c.Age = 1) : (fO N m met).Young = [] := by
 show (met.filter (cB m)).map (nY N m met) = []
 rw [List.map_eq_nil_iff, List.filter_eq_nil_iff]
 intro a hm hb
 obtain ⟨k, rfl⟩ := sY (h.mt.2.1 a hm)
 have hh := h.mt.2.2 _ hm
 rw [ry, decide_eq_true_eq] at hh
 have h1 := ha _ (List.getElem_mem hh)
 unfold cB at hb
 rw [xx m k hh, decide_eq_true_eq] at hb
 omega
theorem AJ (hy : m.Young = []) : met = [] ∧ fO N m met = m ∧ roots.map (dw (dW m met) met) = roots := by
 have hm : met = [] := by
  cases hmet : met with
  | nil => rfl
  | cons a l =>
   have ha : a ∈ met := by rw [hmet]; simp
   obtain ⟨k, rfl⟩ := sY (h.mt.2.1 a ha)
   have hh := h.mt.2.2 _ ha
   rw [ry, hy] at hh
   simp at hh
 have hv : ∀ (ρ : Int → Int) (v : DValue), dw ρ [] v = v := fun ρ v => by
  unfold dw
  rw [decide_eq_false (by simp), Bool.and_false]; rfl
 have hc : ∀ (ρ : Int → Int) (c : DCell), iN ρ [] c = c := fun ρ c => by
  have e : dw ρ [] = id := funext fun v => hv ρ v
  unfold iN
  rw [e, List.map_id, List.map_id]
 have hev : (bf m.Old.length).length = m.Old.length := by unfold bf; simp
 subst hm
 refine ⟨rfl, ?_, ?_⟩
 ·have ho : (bf m.Old.length).map (nC N m []) = m.Old := by
   refine List.ext_getElem (by rw [List.length_map]; exact hev) fun i h1 h2 => ?_
   have hie : i < (bf m.Old.length).length := by omega
   rw [List.getElem_map, px hie]
   have hf : (2 * (i : Int) + 2) ∈ dx m [] := List.mem_append_left _ (cS.2 ⟨i, h2, rfl⟩)
   obtain ⟨i1, -⟩ := (h.cell hf).id fun x hx => h.inF hf (h.whole _ (h.f1has hf) x hx) fun hyx => by
    obtain ⟨k, rfl⟩ := sY hyx
    have := h.whole _ (h.f1has hf) _ hx
    rw [ry, hy] at this
    simp at this
   unfold nC
   rw [i1, hc, pZ m i h2]
  show (⟨[], (bf m.Old.length).map (nC N m []) ++ []⟩ : DMemory) = m
  rw [ho, List.append_nil]
  cases m with
  | mk y o => simp only at hy; subst hy; rfl
 have e : dw (dW m []) [] = id := funext fun v => hv _ v
 rw [e, List.map_id]
end
end Go.Proofs.Ytmbaennilhdieaa
namespace Go.Proofs.Ytmbaennilhdieaa
open Go.RowKit
theorem xn (N : Nat) (a b : List DCell) (ha : a.length < N) (ha2 : a.length ≤ 5000) (hN : 5000 < N) (hc : ∀ c ∈ a, c.Slots.length ≤ 5000 ∧ c.More.length ≤ 5000) : gY N a b = some (decide (a = b)) := by
 unfold gY
 refine xh _ a b (fun hl m i h h' => ?_) (fun m => ?_) N ha
 ·have h1 := hc a[i] (List.getElem_mem _)
  rw [r20_Cells_l5.eq_2, cy (by omega), ct, aY h, bs, aY h', bs, C0 N _ _ (by omega) (by omega) (by omega) (by omega), bs, r64 (by omega) (by omega)]
  cases decide (a[i] = b[i]) <;> rfl
 rw [r20_Cells_l5.eq_2, ci (by omega), cf]; rfl
theorem Cb (N : Nat) (hN : 5000 < N) {m : DMemory} {roots : List DValue} (hs : Small m roots) : kJ N m m = some true := by
 have h1 := hs.young
 have h2 := hs.old
 unfold kJ
 rw [xn N _ _ (by omega) (by omega) hN (fun c hc => by have := hs.cells c (List.mem_append_left _ hc); omega), xn N _ _ (by omega) (by omega) hN (fun c hc => by have := hs.cells c (List.mem_append_right _ hc); omega), bs, decide_eq_true (p := m.Young = m.Young) rfl, decide_eq_true (p := m.Old = m.Old) rfl]
 rfl
theorem pE {N : Nat} (hN : 5000 < N) {m : DMemory} {roots : List DValue} (h : MTurn N m roots) {met : List Int} (g : MinCtx N m roots (iE m) met) (h2 : MTurn N (fO N m met) (roots.map (dw (dW m met) (dx m met)))) (k : Nat) (p18 : List DValue) (p21 p22 : List DCell) (i : Int) (h0 : 0 ≤ i) (h3 : i < 3) (hy : 0 < i → (fO N m met).Young = []) (hs : i = 2 → fO N m met = m ∧ roots.map (dw (dW m met) met) = roots) :
  w20_MinorAgain_l17 N (k + 1) p18 roots i p21 p22 m.Young m.Old = w20_MinorAgain_l17 N k p18 (roots.map (dw (dW m met) (dx m met))) (i + 1) p21 p22 (fO N m met).Young (fO N m met).Old := by
 have hc := g.midCnt
 have hcnt := h.cnt
 have em : (⟨m.Young, m.Old⟩ : DMemory) = m := rfl
 rw [w20_MinorAgain_l17.eq_2, cy h3, ct, em, zp N hN h.small, bs, zf g, bs]
 dsimp only
 rw [g.nowE, decide_eq_true (p := (0 : Int) = 0) rfl, nt, cf, r64 (by omega) (by omega), r64 (by omega) (by omega), ci (by omega), cf]
 have e1 : (bif decide (0 < i) then some (!decide (((fO N m met).Young.length : Int) = 0)) else some false) = some false := by
  by_cases hi : 0 < i
  ·rw [cy hi, ct, hy hi]; rfl
  rw [ci (by omega), cf]
 rw [e1, bs, bs, cf, zw N hN h2.small h2.w64 h2.r64, h2.fine, bs, bs, nt, cf, r64 (by omega) (by omega)]
 by_cases hi : i = 2
 ·obtain ⟨q1, q2⟩ := hs hi
  rw [← g.nowE, q1, q2]
  have hr := h.rlen
  rw [mW hi, ct, Cb N hN h.small, bs, nt, cf, yD N _ _ (by omega) (by omega), decide_eq_true (p := roots = roots) rfl]
  rfl
 rw [ej hi, cf]
 rfl
theorem AL {N : Nat} (hN : 5000 < N) {m : DMemory} {roots : List DValue} (hs : Small m roots) (hw : W64 m) (hr : ∀ v ∈ roots, aK v.N) (hf : kx N m roots = false) : cT N m roots (iE m) = some (⟨[], []⟩, [], [], 1) := by
 have hkl := @sD m
 have ho := hs.old
 unfold cT
 rw [sw N hN hs hw hr (iE m) (by omega) (fun x hx => wZ hs (sE hx).1), sx, hf, bs, nf, ct]
theorem uM {N : Nat} (hN : 5000 < N) {m : DMemory} {roots : List DValue} (h4 : Few20 m roots) (hw : W64 m) (hr : ∀ v ∈ roots, aK v.N) (k : Nat) : w20_MinorAgain_l17 N (k + 1 + 1 + 1 + 1) roots roots 0 m.Young m.Old m.Young m.Old = some true := by
 have hs := h4.small
 cases hf : kx N m roots with
 | false =>
  have em : (⟨m.Young, m.Old⟩ : DMemory) = m := rfl
  rw [w20_MinorAgain_l17.eq_2, cy (by omega), ct, em, zp N hN hs, bs, AL hN hs hw hr hf, bs]
  dsimp only
  rw [decide_eq_false (p := (1 : Int) = 0) (by omega), nf, ct, zw N hN hs hw hr, hf]
  rfl
 | true =>
  have h1 := h4.young
  have h2 := h4.old
  have t0 : MTurn N m roots := ⟨by omega, h4.roots, h4.cells, hw, hr, hf⟩
  obtain ⟨met0, g0, t1⟩ := t0.step hN
  rw [pE hN t0 g0 t1 _ _ _ _ 0 (by omega) (by omega) (fun h => absurd h (by omega)) (fun h => absurd h (by omega))]
  obtain ⟨met1, g1, t2⟩ := t1.step hN
  have y1 := Cf g1 (Cg g0)
  rw [pE hN t1 g1 t2 _ _ _ _ (0 + 1) (by omega) (by omega) (fun _ => y1) (fun h => absurd h (by omega))]
  obtain ⟨met2, g2, t3⟩ := t2.step hN
  obtain ⟨-, y2, y3⟩ := AJ g2 y1
  rw [pE hN t2 g2 t3 _ _ _ _ (0 + 1 + 1) (by omega) (by omega) (fun _ => by rw [y2]; exact y1) (fun _ => ⟨y2, y3⟩)]
  rw [w20_MinorAgain_l17.eq_2, ci (by omega), cf]
  rfl
theorem wa {m0 : DMemory} {roots0 : List DValue} (hb : Bnd 140737488355328 m0 roots0) (hw0 : W64 m0) (hr0 : ∀ v ∈ roots0, aK v.N) : fc 6000 m0 roots0 = some true := by
 have hbr := hb.roots
 have hr : ∀ v ∈ roots0.take 40, aK v.N := fun v hv => hr0 v (List.mem_of_mem_take hv)
 have et : (roots0.drop 0).take ((min (roots0.length : Int) 40).toNat - 0) = roots0.take 40 := qI _ rfl
 unfold fc
 rw [t6, bs, nt, cf, yb 6000 (by decide) m0 hb.young hb.old, bs, iC ⟨by omega, by omega, by omega⟩, et]
 exact uM (N := 6000) (by decide) (Ck m0 roots0) (AQ hw0) hr 5996
theorem vY (m : DMemory) (roots : List DValue) (hm : kB m) (hr : BU (fun z => iS z) roots) : fc 6000 m roots = some true := by
 obtain ⟨h1, h2, h3⟩ := yH m roots hm hr
 exact wa h1 h2 h3
end Go.Proofs.Ytmbaennilhdieaa