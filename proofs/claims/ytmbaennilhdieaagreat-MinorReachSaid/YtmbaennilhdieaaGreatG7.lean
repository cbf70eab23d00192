/- Merged texts: part 7. No conditions of their own. -/
import Derived.Test.YtmbaennilhdieaaGreatG6
import Derived.ProofKit
import Derived.Test.YtmbaennilhdieaaGreatG3
/- Plain: what a weak map opens, on both sides. -/
namespace Go.Proofs.YtmbaennilhdieaaGreat
open Go.RowKit
theorem index_spec (N : Nat) (x : Int) (l : List Int) (hl : l.length ≤ 5000) : ∀ (m i : Nat), l.length < m + i → i ≤ l.length → Sat (slices_Index_l3 N x l m (i : Int)) fun r => decide (0 ≤ r) = decide (x ∈ l.drop i)
 | 0, i, h, h2 => by omega
 | m + 1, i, h, h2 => by
  rw [slices_Index_l3_s]
  by_cases hi : i < l.length
  ·rw [lt_t (by omega), ct, getE_n hi, bs, List.drop_eq_getElem_cons hi]
   refine sat_dec (fun e => ?_) fun e => ?_
   ·exact sat_some (by rw [decide_eq_true (by omega), decide_eq_true]; rw [e]; exact List.mem_cons_self ..)
   ·rw [r64 (by omega) (by omega)]
    have := index_spec N x l hl m (i + 1) (by omega) hi
    simp only [Int.natCast_add, Int.cast_ofNat_Int] at this
    refine this.mono fun r hr => ?_
    rw [hr]
    have : (x ∈ l[i] :: l.drop (i + 1)) ↔ x ∈ l.drop (i + 1) := ⟨fun h => (List.mem_cons.1 h).resolve_left (fun e2 => e e2), List.mem_cons_of_mem _⟩
    rw [decide_eq_decide]; exact this.symm
  ·rw [lt_f (by omega), cf, List.drop_eq_nil_of_le (by omega)]
   exact sat_some (by simp)
theorem contains_prog (N : Nat) (hN : 5000 < N) (l : List Int) (hl : l.length ≤ 5000) (x : Int) : slices_Contains_O N l x = some (decide (x ∈ l)) := by
 obtain ⟨r, h1, h2⟩ := index_spec N x l hl N 0 (by omega) (by omega)
 unfold slices_Contains_O slices_Index_O
 rw [show slices_Index_l3 N x l N 0 = some r from h1, bs, h2]
 rfl
theorem in17 (N : Nat) (hN : 5000 < N) (l : List Int) (hl : l.length ≤ 5000) (x : Int) : r17_In_O N x l = some (decide (x ∈ l)) := by
 apply Sat.eq
 unfold r17_In_O
 have key : ∀ (m i : Nat), l.length < m + i → i ≤ l.length → Sat (r17_In_l3 N x l m (i : Int)) (· = decide (x ∈ l.drop i)) := by
  intro m
  induction m with
  | zero => intro i h h2; omega
  | succ m ih =>
   intro i h h2
   rw [r17_In_l3_s]
   by_cases hi : i < l.length
   ·rw [lt_t (by omega), ct, getE_n hi, bs, List.drop_eq_getElem_cons hi]
    refine sat_dec (fun e => ?_) fun e => ?_
    ·exact sat_some (by rw [decide_eq_true]; rw [e]; exact List.mem_cons_self ..)
    ·rw [r64 (by omega) (by omega)]
     have := ih (i + 1) (by omega) hi
     simp only [Int.natCast_add, Int.cast_ofNat_Int] at this
     refine this.mono fun r hr => ?_
     rw [hr]
     have : (x ∈ l[i] :: l.drop (i + 1)) ↔ x ∈ l.drop (i + 1) := ⟨fun h => (List.mem_cons.1 h).resolve_left (fun e2 => e e2.symm), List.mem_cons_of_mem _⟩
     rw [decide_eq_decide]; exact this.symm
   ·rw [lt_f (by omega), cf, List.drop_eq_nil_of_le (by omega)]
    exact sat_some (by simp)
 exact key N 0 (by omega) (by omega)
theorem in19 (N : Nat) (hN : 5000 < N) (l : List Int) (hl : l.length ≤ 5000) (x : Int) : r19_In_O N l x = some (decide (x ∈ l)) := by
 apply Sat.eq
 unfold r19_In_O
 have key : ∀ (m i : Nat), l.length < m + i → i ≤ l.length → Sat (r19_In_l3 N x l m (i : Int)) (· = decide (x ∈ l.drop i)) := by
  intro m
  induction m with
  | zero => intro i h h2; omega
  | succ m ih =>
   intro i h h2
   rw [r19_In_l3_s]
   by_cases hi : i < l.length
   ·rw [lt_t (by omega), ct, getE_n hi, bs, List.drop_eq_getElem_cons hi]
    refine sat_dec (fun e => ?_) fun e => ?_
    ·exact sat_some (by rw [decide_eq_true]; rw [e]; exact List.mem_cons_self ..)
    ·rw [r64 (by omega) (by omega)]
     have := ih (i + 1) (by omega) hi
     simp only [Int.natCast_add, Int.cast_ofNat_Int] at this
     refine this.mono fun r hr => ?_
     rw [hr]
     have : (x ∈ l[i] :: l.drop (i + 1)) ↔ x ∈ l.drop (i + 1) := ⟨fun h => (List.mem_cons.1 h).resolve_left (fun e2 => e e2.symm), List.mem_cons_of_mem _⟩
     rw [decide_eq_decide]; exact this.symm
   ·rw [lt_f (by omega), cf, List.drop_eq_nil_of_le (by omega)]
    exact sat_some (by simp)
 exact key N 0 (by omega) (by omega)
def opens (p : Int → Bool) : List DValue → List Int
 | k :: v :: l => (bif hasB v && p k.N then [v.N] else []) ++ opens p l
 | _ => []
theorem opens_cons (p : Int → Bool) (k v : DValue) (l : List DValue) : opens p (k :: v :: l) = (bif hasB v && p k.N then [v.N] else []) ++ opens p l := rfl
theorem opens_len (p : Int → Bool) : ∀ l : List DValue, (opens p l).length ≤ l.length
 | [] => Nat.le_refl _
 | [_] => Nat.zero_le _
 | k :: v :: l => by
  have := opens_len p l
  rw [opens_cons, List.length_append]
  cases hasB v && p k.N <;> simp <;> omega
theorem opens_mem {p : Int → Bool} {x : Int} : ∀ {l : List DValue}, x ∈ opens p l → ∃ v ∈ l, v.N = x
 | [], h => by cases h
 | [_], h => by cases h
 | k :: v :: l, h => by
  rw [opens_cons, List.mem_append] at h
  rcases h with h | h
  ·cases hb : hasB v && p k.N
   ·rw [hb] at h; cases h
   ·rw [hb] at h; exact ⟨v, by simp, (List.mem_singleton.1 h).symm⟩
  ·obtain ⟨w, h1, h2⟩ := opens_mem h
   exact ⟨w, by simp [h1], h2⟩
theorem kind_has (v : DValue) : ((bif decide (v.Kind = 7) then (some true) else (some (decide (v.Kind = 9)))) : Option Bool) = some (hasB v) := by unfold hasB; cases decide (v.Kind = 7) <;> rfl
def opensL (N : Nat) (c : DCell) (l : List Int) : List Int := bif isWM N c then opens (fun x => decide (x ∈ l)) c.More else []
theorem opensL_len (N : Nat) (c : DCell) (l : List Int) : (opensL N c l).length ≤ c.More.length := by
 unfold opensL
 cases isWM N c
 ·exact Nat.zero_le _
 ·exact opens_len _ _
theorem opensL_mem {N : Nat} {c : DCell} {l : List Int} {x : Int} (h : x ∈ opensL N c l) : ∃ v ∈ c.Slots ++ c.More, v.N = x := by
 unfold opensL at h
 cases hw : isWM N c
 ·rw [hw] at h; cases h
 ·rw [hw] at h
  obtain ⟨v, h1, h2⟩ := opens_mem h
  exact ⟨v, by simp [h1], h2⟩
theorem opens_body (N : Nat) (hN : 5000 < N) (l : List Int) (hl : l.length ≤ 5000) (k v : DValue) (s : List Int) (hs : s.length ≤ 5000) : liftR (fun x st => weak_Opens_b12 N l x st) (k, v) (none, s) = some (true, (none, s ++ (bif hasB v && decide (k.N ∈ l) then [v.N] else []))) := by
 unfold liftR weak_Opens_b12
 simp only [kind_has, bs, contains_prog N hN l hl]
 cases hasB v
 ·simp only [cf, bs, Bool.false_and, List.append_nil]; rfl
 ·simp only [ct, bs, Bool.true_and]
  cases decide (k.N ∈ l)
  ·simp only [cf, List.append_nil]; rfl
  ·simp only [ct]
   rw [rF (by simp; omega)]
   rfl
theorem entries_prog (N : Nat) (hN : 5000 < N) (l : List Int) (hl : l.length ≤ 5000) (c : DCell) (hc : c.More.length ≤ 1000) (he : c.More.length % 2 = 0) : ∀ (m i : Nat) (s : List Int), c.More.length < m + i → i ≤ c.More.length → i % 2 = 0 → s.length ≤ i → weak_entries_c1_l4 N (liftR (fun x st => weak_Opens_b12 N l x st)) c m (i : Int) (none, s) = some (none, s ++ opens (fun x => decide (x ∈ l)) (c.More.drop i))
 | 0, i, s, h, h2, _, _ => by omega
 | m + 1, i, s, h, h2, h3, h4 => by
  rw [weak_entries_c1_l4_s, r64 (a := (i : Int) + 1) (by omega) (by omega)]
  by_cases hi : i < c.More.length
  ·have hi1 : i + 1 < c.More.length := by omega
   have hl1 : getE c.More ((i : Int) + 1) = some c.More[i + 1] := by
    have := getE_n hi1
    simpa using this
   rw [lt_t (by omega), ct, getE_n hi, bs, r64 (a := (i : Int) + 1) (by omega) (by omega), hl1, bs, opens_body N hN l hl _ _ s (by omega), bs]
   simp only [nt, cf]
   rw [r64 (by omega) (by omega)]
   have hlen : (s ++ (bif hasB c.More[i + 1] && decide (c.More[i].N ∈ l) then [c.More[i + 1].N] else [])).length ≤ i + 2 := by
    cases hasB c.More[i + 1] && decide (c.More[i].N ∈ l) <;> simp <;> omega
   have := entries_prog N hN l hl c hc he m (i + 2) _ (by omega) (by omega) (by omega) hlen
   simp only [Int.natCast_add, Int.cast_ofNat_Int] at this
   rw [this, List.drop_eq_getElem_cons hi, List.drop_eq_getElem_cons hi1, opens_cons, List.append_assoc]
  ·rw [lt_f (by omega), cf, List.drop_eq_nil_of_le (by omega)]
   simp [opens]
theorem opens_prog (N : Nat) (hN : 5000 < N) (l : List Int) (hl : l.length ≤ 5000) (c : DCell) (hS : c.Slots.length ≤ 1000) (hc : c.More.length ≤ 1000) : weak_Opens_O N c l = some (opensL N c l) := by
 obtain ⟨-, h1, h2⟩ := is_ref N (by omega) c hS hc
 unfold weak_Opens_O opensL weak_entries_c1_O
 rw [h1, bs]
 cases hw : isWM N c
 ·rfl
 ·have e : weak_entries_O N c = some () := rfl
  have := entries_prog N hN l hl c hc (h2 hw) N 0 [] (by omega) (by omega) rfl (by simp)
  simp only [nt, cf, ct, e, bs]
  have h3 : weak_entries_c1_l4 N (liftR (fun x st => weak_Opens_b12 N l x st)) c N 0 (none, []) = some (none, [] ++ opens (fun x => decide (x ∈ l)) (c.More.drop 0)) := this
  rw [h3, bs]
  rfl
theorem opens_ref (N : Nat) (hN : 5000 < N) (l : List Int) (hl : l.length ≤ 5000) (c : DCell) (hS : c.Slots.length ≤ 1000) (hc : c.More.length ≤ 1000) : r17_Opens_O N c l = some (opensL N c l) := by
 obtain ⟨h1, -, h2⟩ := is_ref N (by omega) c hS hc
 unfold r17_Opens_O opensL
 cases hw : isWM N c
 ·obtain ⟨n, rfl⟩ : ∃ n, N = n + 1 := ⟨N - 1, by omega⟩
  rw [r17_Opens_l7_s, h1, bs, hw]
  simp only [cf, bs]
  rfl
 ·have he := h2 hw
  have key : ∀ (m i : Nat) (s : List Int), c.More.length < m + i → i ≤ c.More.length → i % 2 = 0 → s.length ≤ i → r17_Opens_l7 N l c m s (i : Int) = some (s ++ opens (fun x => decide (x ∈ l)) (c.More.drop i)) := by
   intro m
   induction m with
   | zero => intro i s h h2; omega
   | succ m ih =>
    intro i s h h2 h3 h4
    rw [r17_Opens_l7_s, h1, bs, hw, ct, bs]
    by_cases hi : i < c.More.length
    ·have hi1 : i + 1 < c.More.length := by omega
     have hl1 : getE c.More ((i : Int) + 1) = some c.More[i + 1] := by
      have := getE_n hi1
      simpa using this
     rw [lt_t (by omega), ct, r64 (a := (i : Int) + 1) (by omega) (by omega), hl1, bs, getE_n hi, bs, in17 N hN l hl, bs]
     simp only [kind_has, bs]
     have hlen : (s ++ (bif hasB c.More[i + 1] && decide (c.More[i].N ∈ l) then [c.More[i + 1].N] else [])).length ≤ i + 2 := by
      cases hasB c.More[i + 1] && decide (c.More[i].N ∈ l) <;> simp <;> omega
     have := ih (i + 2) _ (by omega) (by omega) (by omega) hlen
     simp only [Int.natCast_add, Int.cast_ofNat_Int] at this
     rw [List.drop_eq_getElem_cons hi, List.drop_eq_getElem_cons hi1, opens_cons, ← List.append_assoc, ← this]
     unfold r17_Opens_j14
     rw [r64 (a := (i : Int) + 2) (by omega) (by omega), r64 (a := (i : Int) + 2) (by omega) (by omega)]
     cases decide (c.More[i].N ∈ l)
     ·simp only [cf, bs, Bool.and_false, List.append_nil]
     ·cases hasB c.More[i + 1]
      ·simp only [ct, cf, bs, Bool.and_true, List.append_nil]
      ·simp only [ct, bs, Bool.and_true]
       rw [rF (by simp; omega)]
    ·rw [lt_f (by omega), cf, List.drop_eq_nil_of_le (by omega)]
     simp [opens, r17_Opens_j5]
  have := key N 0 [] (by omega) (by omega) rfl (by simp)
  simpa using this
end Go.Proofs.YtmbaennilhdieaaGreat
/- Plain: the traversal. -/
namespace Go.Proofs.YtmbaennilhdieaaGreat
open Go.RowKit
theorem nodup_le : ∀ (b : Nat) {l : List Int}, l.Nodup → (∀ x ∈ l, 1 ≤ x ∧ x ≤ (b : Int)) → l.length ≤ b
 | 0, l, _, h => by
  cases l with
  | nil => exact Nat.le_refl _
  | cons x l => have := h x (by simp); omega
 | b + 1, l, hn, h => by
  have h1 := nodup_le b (hn.erase ((b : Int) + 1)) fun x hx => by
   obtain ⟨h2, h3⟩ := hn.mem_erase_iff.1 hx
   have := h x h3
   omega
  have h2 := List.length_erase (a := (b : Int) + 1) (l := l)
  split at h2 <;> omega
theorem lk_mem (kv : List (Int × Unit)) (a : Int) : (lk kv a).isSome = decide (a ∈ kv.map (·.1)) := by
 unfold lk
 rw [Bool.eq_iff_iff]
 simp [List.find?_isSome, List.mem_map]
def W64 (m : DMemory) : Prop := ∀ c ∈ m.Young ++ m.Old, ∀ v ∈ c.Slots ++ c.More, in64 v.N
theorem W64.at_ {m : DMemory} (h : W64 m) (a : Int) : ∀ v ∈ (atM m a).Slots ++ (atM m a).More, in64 v.N := by
 unfold atM
 cases hc : cellAt m a with
 | none => intro v hv; simp [zeroC] at hv
 | some c => exact h c (cellAt_mem hc)
structure Tr (m : DMemory) (all : List Int) (met : List (Int × Unit)) : Prop where
 nd : all.Nodup
 mem : ∀ x, x ∈ met.map (·.1) ↔ x ∈ all
 has : ∀ x ∈ all, hasM m x = true
theorem Tr.len {m : DMemory} {roots : List DValue} (hs : Small m roots) {all : List Int} {met : List (Int × Unit)} (h : Tr m all met) : all.length ≤ 1200 := nodup_le 1200 h.nd fun x hx => ⟨by have := hasM_pos (h.has x hx); omega, by have := hasM_le hs (h.has x hx); omega⟩
theorem Tr.in64 {m : DMemory} {roots : List DValue} (hs : Small m roots) {all : List Int} {met : List (Int × Unit)} (h : Tr m all met) {x : Int} (hx : x ∈ all) : in64 x := by
 have h1 := hasM_pos (h.has x hx)
 have h2 := hasM_le hs (h.has x hx)
 unfold Go.Proofs.YtmbaennilhdieaaGreat.in64; omega
theorem Tr.add {m : DMemory} {all : List Int} {met : List (Int × Unit)} (h : Tr m all met) {x : Int} (hx : x ∉ all) (hh : hasM m x = true) : Tr m (all ++ [x]) (upL met x ()) := ⟨List.nodup_append.2 ⟨h.nd, by simp, fun a ha b hb e => by rw [List.mem_singleton] at hb; subst hb; subst e; exact hx ha⟩, fun y => by
 rw [upL_mem, List.mem_append, List.mem_singleton, h.mem y]; exact Or.comm, fun y hy => by
 rcases List.mem_append.1 hy with hy | hy
 ·exact h.has y hy
 ·rw [List.mem_singleton] at hy; subst hy; exact hh⟩
def Clo (m : DMemory) (all : List Int) (k : Nat) : Prop := ∀ (i : Nat) (a x : Int), i < k → all[i]? = some a → x ∈ leadsL (atM m a) → hasM m x = true → x ∈ all
theorem leads_ok {m : DMemory} {roots : List DValue} (hs : Small m roots) (hw : W64 m) (a : Int) : (leadsL (atM m a)).length ≤ 2000 ∧ ∀ x ∈ leadsL (atM m a), in64 x := by
 have h1 := hs.at_ a
 have h2 := leadsL_len (atM m a)
 refine ⟨by omega, fun x hx => ?_⟩
 obtain ⟨v, h3, rfl⟩ := leadsL_mem hx
 exact hw.at_ a v h3
end Go.Proofs.YtmbaennilhdieaaGreat
/- Plain: traversals of a graph with weak maps, as relations. No program in sight. -/
namespace Go.Proofs.YtmbaennilhdieaaGreat
open Go.RowKit
structure Gr where
 has : Int → Bool
 leads : Int → List Int
 opens : List Int → Int → List Int
def layL (has : Int → Bool) : List Int → List Int → List Int
 | row, [] => row
 | row, x :: l => layL has (bif has x && !decide (x ∈ row) then row ++ [x] else row) l
inductive Thr (g : Gr) : List Int → Nat → List Int → Prop
 | done {row : List Int} {k : Nat} : row.length ≤ k → Thr g row k row
 | step {row : List Int} {k : Nat} {a : Int} {r : List Int} : row[k]? = some a → Thr g (layL g.has row (g.leads a)) (k + 1) r → Thr g row k r
def passL (g : Gr) : List Int → List Int → List Int
 | row, [] => row
 | row, a :: avs => passL g (layL g.has row (g.opens row a)) avs
inductive Ord (g : Gr) : List Int → List Int → Prop
 | done {row : List Int} : passL g row row = row → Ord g row row
 | step {row r1 r : List Int} : passL g row row ≠ row → Thr g (passL g row row) row.length r1 → Ord g r1 r → Ord g row r
structure IsOrder (g : Gr) (roots : List Int) (b l : List Int) : Prop where
 strong : Thr g (layL g.has [] roots) 0 b
 all : Ord g b l
theorem layL_app (has : Int → Bool) : ∀ (row l : List Int), ∃ t, layL has row l = row ++ t ∧ (∀ x ∈ t, has x = true ∧ x ∈ l)
 | row, [] => ⟨[], by simp [layL], by simp⟩
 | row, x :: l => by
  unfold layL
  cases h : has x && !decide (x ∈ row) with
  | false =>
   obtain ⟨t, h1, h2⟩ := layL_app has row l
   exact ⟨t, h1, fun y hy => ⟨(h2 y hy).1, by simp [(h2 y hy).2]⟩⟩
  | true =>
   obtain ⟨t, h1, h2⟩ := layL_app has (row ++ [x]) l
   refine ⟨x :: t, by rw [cond_true, h1]; simp, fun y hy => ?_⟩
   rw [Bool.and_eq_true] at h
   rcases List.mem_cons.1 hy with e | hy
   ·subst e; exact ⟨h.1, by simp⟩
   ·exact ⟨(h2 y hy).1, by simp [(h2 y hy).2]⟩
theorem layL_two (has : Int → Bool) : ∀ (row l l' : List Int), layL has row (l ++ l') = layL has (layL has row l) l'
 | _, [], _ => rfl
 | row, x :: l, l' => by
  show layL has _ (l ++ l') = _
  rw [layL_two has _ l l']; rfl
theorem layL_nodup {has : Int → Bool} : ∀ {row : List Int} (l : List Int), row.Nodup → (layL has row l).Nodup
 | _, [], h => h
 | row, x :: l, h => by
  unfold layL
  cases h2 : has x && !decide (x ∈ row) with
  | false => exact layL_nodup l h
  | true =>
   rw [Bool.and_eq_true] at h2
   have hx : x ∉ row := by simpa using h2.2
   exact layL_nodup l (List.nodup_append.2 ⟨h, by simp, fun a ha b hb e => by rw [List.mem_singleton] at hb; subst hb; subst e; exact hx ha⟩)
theorem layL_mem {has : Int → Bool} : ∀ (row l : List Int) {x : Int}, x ∈ l → has x = true → x ∈ layL has row l
 | row, y :: l, x, h, hx => by
  unfold layL
  rcases List.mem_cons.1 h with e | h
  ·subst e
   obtain ⟨t, h1, -⟩ := layL_app has (bif has x && !decide (x ∈ row) then row ++ [x] else row) l
   rw [h1]
   refine List.mem_append_left _ ?_
   rw [hx, Bool.true_and]
   by_cases hm : x ∈ row <;> simp [hm]
  ·exact layL_mem _ l h hx
theorem layL_new {has : Int → Bool} {row l : List Int} {x : Int} (h : x ∈ layL has row l) : x ∈ row ∨ (has x = true ∧ x ∈ l) := by
 obtain ⟨t, h1, h2⟩ := layL_app has row l
 rw [h1] at h
 rcases List.mem_append.1 h with h | h
 ·exact .inl h
 ·exact .inr (h2 x h)
theorem passL_app (g : Gr) : ∀ (row avs : List Int), ∃ t, passL g row avs = row ++ t
 | row, [] => ⟨[], by simp [passL]⟩
 | row, a :: avs => by
  obtain ⟨t, h1, -⟩ := layL_app g.has row (g.opens row a)
  obtain ⟨t2, h2⟩ := passL_app g (layL g.has row (g.opens row a)) avs
  exact ⟨t ++ t2, by unfold passL; rw [h2, h1, List.append_assoc]⟩
theorem passL_two (g : Gr) : ∀ (row avs bs : List Int), passL g row (avs ++ bs) = passL g (passL g row avs) bs
 | _, [], _ => rfl
 | row, a :: avs, bs => by
  show passL g _ (avs ++ bs) = _
  rw [passL_two g _ avs bs]; rfl
theorem passL_nodup {g : Gr} : ∀ {row : List Int} (avs : List Int), row.Nodup → (passL g row avs).Nodup
 | _, [], h => h
 | _, _ :: avs, h => passL_nodup avs (layL_nodup _ h)
theorem passL_has {g : Gr} : ∀ {row : List Int} (avs : List Int), (∀ x ∈ row, g.has x = true) → ∀ x ∈ passL g row avs, g.has x = true
 | _, [], h => h
 | _, _ :: avs, h => passL_has avs fun x hx => (layL_new hx).elim (h x) (·.1)
theorem Thr.app {g : Gr} {row r : List Int} {k : Nat} (h : Thr g row k r) : ∃ t, r = row ++ t := by
 induction h with
 | done _ => exact ⟨[], by simp⟩
 | step _ _ ih =>
  rename_i row _ a _ _ _
  obtain ⟨t, rfl⟩ := ih
  obtain ⟨t2, h1, -⟩ := layL_app g.has row (g.leads a)
  exact ⟨t2 ++ t, by rw [h1, List.append_assoc]⟩
theorem Thr.nodup {g : Gr} {row r : List Int} {k : Nat} (h : Thr g row k r) (hn : row.Nodup) : r.Nodup := by
 induction h with
 | done _ => exact hn
 | step _ _ ih => exact ih (layL_nodup _ hn)
theorem Thr.has {g : Gr} {row r : List Int} {k : Nat} (h : Thr g row k r) (hn : ∀ x ∈ row, g.has x = true) : ∀ x ∈ r, g.has x = true := by
 induction h with
 | done _ => exact hn
 | step _ _ ih => exact ih fun x hx => (layL_new hx).elim (hn x) (·.1)
theorem Thr.det {g : Gr} {row r r' : List Int} {k : Nat} (h : Thr g row k r) (h' : Thr g row k r') : r = r' := by
 induction h with
 | done hk =>
  cases h' with
  | done _ => rfl
  | step ha _ => rw [List.getElem?_eq_none hk] at ha; cases ha
 | step ha _ ih =>
  cases h' with
  | done hk => rw [List.getElem?_eq_none hk] at ha; cases ha
  | step ha' h2 => rw [ha] at ha'; cases ha'; exact ih h2
theorem Ord.det {g : Gr} {row r r' : List Int} (h : Ord g row r) (h' : Ord g row r') : r = r' := by
 induction h with
 | done hk =>
  cases h' with
  | done _ => rfl
  | step ha _ _ => exact absurd hk ha
 | step ha h1 _ ih =>
  cases h' with
  | done hk => exact absurd hk ha
  | step _ h1' h2 => exact ih (h1.det h1' ▸ h2)
theorem IsOrder.det {g : Gr} {roots b l b' l' : List Int} (h : IsOrder g roots b l) (h' : IsOrder g roots b' l') : b = b' ∧ l = l' := by
 obtain ⟨h1, h2⟩ := h
 obtain ⟨h3, h4⟩ := h'
 have e := h1.det h3
 subst e
 exact ⟨rfl, h2.det h4⟩
theorem Ord.app {g : Gr} {row r : List Int} (h : Ord g row r) : ∃ t, r = row ++ t := by
 induction h with
 | done _ => exact ⟨[], by simp⟩
 | step _ h1 _ ih =>
  rename_i row r1 _ _ _
  obtain ⟨t, rfl⟩ := ih
  obtain ⟨t1, rfl⟩ := h1.app
  obtain ⟨t2, h2⟩ := passL_app g row row
  exact ⟨t2 ++ t1 ++ t, by rw [h2]; simp [List.append_assoc]⟩
theorem Ord.nodup {g : Gr} {row r : List Int} (h : Ord g row r) (hn : row.Nodup) : r.Nodup := by
 induction h with
 | done _ => exact hn
 | step _ h1 _ ih => exact ih (h1.nodup (passL_nodup _ hn))
theorem Ord.has {g : Gr} {row r : List Int} (h : Ord g row r) (hn : ∀ x ∈ row, g.has x = true) : ∀ x ∈ r, g.has x = true := by
 induction h with
 | done _ => exact hn
 | step _ h1 _ ih => exact ih (h1.has (passL_has _ hn))
theorem IsOrder.nodup {g : Gr} {roots b l : List Int} (h : IsOrder g roots b l) : b.Nodup ∧ l.Nodup :=
 have hb := h.strong.nodup (layL_nodup _ List.nodup_nil)
 ⟨hb, h.all.nodup hb⟩
theorem IsOrder.has {g : Gr} {roots b l : List Int} (h : IsOrder g roots b l) : (∀ x ∈ b, g.has x = true) ∧ ∀ x ∈ l, g.has x = true :=
 have hb := h.strong.has fun x hx => (layL_new hx).elim (fun h => by cases h) (·.1)
 ⟨hb, h.all.has hb⟩
theorem IsOrder.sub {g : Gr} {roots b l : List Int} (h : IsOrder g roots b l) {x : Int} (hx : x ∈ b) : x ∈ l := by
 obtain ⟨t, e⟩ := h.all.app
 rw [e]; exact List.mem_append_left _ hx
theorem IsOrder.roots {g : Gr} {roots b l : List Int} (h : IsOrder g roots b l) {x : Int} (hx : x ∈ roots) (hh : g.has x = true) : x ∈ b := by
 obtain ⟨t, e⟩ := h.strong.app
 rw [e]; exact List.mem_append_left _ (layL_mem _ _ hx hh)
def CloG (g : Gr) (row : List Int) (k : Nat) : Prop := ∀ (i : Nat) (a x : Int), i < k → row[i]? = some a → x ∈ g.leads a → g.has x = true → x ∈ row
theorem CloG.app {g : Gr} {row t : List Int} {k : Nat} (hk : k ≤ row.length) (h : CloG g row k) : CloG g (row ++ t) k := fun i a x hi ha hx hh => by
 rw [List.getElem?_append_left (by omega)] at ha
 exact List.mem_append_left _ (h i a x hi ha hx hh)
theorem Thr.clo {g : Gr} {row r : List Int} {k : Nat} (h : Thr g row k r) (hk : k ≤ row.length) (hc : CloG g row k) : CloG g r r.length := by
 induction h with
 | done hk2 => intro i a x hi ha hx hh; exact hc i a x (by omega) ha hx hh
 | step ha _ ih =>
  rename_i row k a _ _
  have hlt := (List.getElem?_eq_some_iff.1 ha).1
  obtain ⟨t, h1, -⟩ := layL_app g.has row (g.leads a)
  refine ih (by rw [h1, List.length_append]; omega) fun i b x hi hb hx hh => ?_
  by_cases e : i = k
  ·subst e
   rw [h1, List.getElem?_append_left hlt, ha] at hb
   cases hb
   exact layL_mem _ _ hx hh
  ·rw [h1] at hb ⊢
   exact (CloG.app hk hc (t := t)) i b x (by omega) hb hx hh
theorem passL_fix {g : Gr} : ∀ {row avs : List Int}, passL g row avs = row → ∀ a ∈ avs, ∀ x ∈ g.opens row a, g.has x = true → x ∈ row
 | row, b :: avs, h, a, ha, x, hx, hh => by
  have h1 : layL g.has row (g.opens row b) = row := by
   obtain ⟨t, e1, -⟩ := layL_app g.has row (g.opens row b)
   obtain ⟨t2, e2⟩ := passL_app g (layL g.has row (g.opens row b)) avs
   have h3 : row ++ t ++ t2 = row := by rw [← e1, ← e2]; exact h
   have h4 := congrArg List.length h3
   simp only [List.length_append] at h4
   have h5 : t = [] := List.eq_nil_of_length_eq_zero (by omega)
   rw [e1, h5, List.append_nil]
  rcases List.mem_cons.1 ha with e | ha
  ·subst e; have := layL_mem row _ hx hh; rwa [h1] at this
  ·refine passL_fix (avs := avs) ?_ a ha x hx hh
   unfold passL at h; rw [h1] at h; exact h
theorem Ord.closed {g : Gr} {row r : List Int} (h : Ord g row r) (hc : CloG g row row.length) : CloG g r r.length ∧ ∀ a ∈ r, ∀ x ∈ g.opens r a, g.has x = true → x ∈ r := by
 induction h with
 | done hp => exact ⟨hc, passL_fix hp⟩
 | step _ h1 _ ih =>
  rename_i row _ _ _ _
  obtain ⟨t, e⟩ := passL_app g row row
  refine ih (h1.clo (by rw [e, List.length_append]; omega) ?_)
  rw [e]; exact hc.app (Nat.le_refl _)
theorem IsOrder.closed {g : Gr} {roots b l : List Int} (h : IsOrder g roots b l) : (∀ a ∈ l, ∀ x ∈ g.leads a, g.has x = true → x ∈ l) ∧ ∀ a ∈ l, ∀ x ∈ g.opens l a, g.has x = true → x ∈ l := by
 obtain ⟨h1, h2⟩ := h.all.closed (h.strong.clo (Nat.zero_le _) fun i _ _ hi => absurd hi (by omega))
 refine ⟨fun a ha x hx hh => ?_, h2⟩
 obtain ⟨i, hi, e⟩ := List.getElem_of_mem ha
 exact h1 i a x hi (by rw [List.getElem?_eq_getElem hi, e]) hx hh
structure ClosedS (g : Gr) (S : Int → Prop) : Prop where
 leads : ∀ a, S a → ∀ x ∈ g.leads a, g.has x = true → S x
 opens : ∀ row : List Int, (∀ x ∈ row, S x) → ∀ a, S a → ∀ x ∈ g.opens row a, g.has x = true → S x
theorem layL_in {has : Int → Bool} {S : Int → Prop} {row l : List Int} (h1 : ∀ x ∈ row, S x) (h2 : ∀ x ∈ l, has x = true → S x) : ∀ x ∈ layL has row l, S x := fun x hx => (layL_new hx).elim (h1 x) fun ⟨h3, h4⟩ => h2 x h4 h3
theorem Thr.in_ {g : Gr} {S : Int → Prop} (hS : ClosedS g S) {row r : List Int} {k : Nat} (h : Thr g row k r) (hr : ∀ x ∈ row, S x) : ∀ x ∈ r, S x := by
 induction h with
 | done _ => exact hr
 | step ha _ ih => exact ih (layL_in hr (hS.leads _ (hr _ (List.mem_of_getElem? ha))))
theorem passL_in {g : Gr} {S : Int → Prop} (hS : ClosedS g S) : ∀ {row avs : List Int}, (∀ x ∈ row, S x) → (∀ x ∈ avs, S x) → ∀ x ∈ passL g row avs, S x
 | _, [], h, _ => h
 | row, a :: avs, h, h2 => passL_in hS (row := layL g.has row (g.opens row a)) (layL_in h (hS.opens _ h a (h2 a (by simp)))) fun x hx => h2 x (by simp [hx])
theorem Ord.in_ {g : Gr} {S : Int → Prop} (hS : ClosedS g S) {row r : List Int} (h : Ord g row r) (hr : ∀ x ∈ row, S x) : ∀ x ∈ r, S x := by
 induction h with
 | done _ => exact hr
 | step _ h1 _ ih => exact ih (h1.in_ hS (passL_in hS hr hr))
theorem IsOrder.in_ {g : Gr} {S : Int → Prop} (hS : ClosedS g S) {roots b l : List Int} (h : IsOrder g roots b l) (hr : ∀ x ∈ roots, g.has x = true → S x) : ∀ x ∈ l, S x :=
 h.all.in_ hS (h.strong.in_ hS (layL_in (fun _ h => by cases h) hr))
end Go.Proofs.YtmbaennilhdieaaGreat
/- Plain: the program's traversal is the one of the relation. -/
namespace Go.Proofs.YtmbaennilhdieaaGreat
open Go.RowKit
def grM (N : Nat) (m : DMemory) : Gr := ⟨hasM m, fun a => leadsL (atM m a), fun row a => opensL N (atM m a) row⟩
def addrL (l : List DValue) : List Int := (l.filter hasB).map (·.N)
theorem addrL_app (l l' : List DValue) : addrL (l ++ l') = addrL l ++ addrL l' := by unfold addrL; simp
theorem addrL_mem {l : List DValue} {x : Int} : x ∈ addrL l ↔ ∃ v ∈ l, hasB v = true ∧ v.N = x := by
 unfold addrL; simp only [List.mem_map, List.mem_filter]
 constructor
 ·rintro ⟨v, ⟨h1, h2⟩, h3⟩; exact ⟨v, h1, h2, h3⟩
 ·rintro ⟨v, h1, h2, h3⟩; exact ⟨v, ⟨h1, h2⟩, h3⟩
theorem lay_fun (N : Nat) {m : DMemory} {roots : List DValue} (hN : 5000 < N) (hs : Small m roots) (d : Int) (l : List Int) (hl : l.length ≤ 2000) (h64 : ∀ x ∈ l, in64 x) {all : List Int} {met : List (Int × Unit)} (ht : Tr m all met) :
  Sat (reach_row_lay_O N ⟨m, all, met, d⟩ l) fun r => r.m_ = m ∧ r.done_ = d ∧ Tr m r.all_ r.met_ ∧ r.all_ = layL (hasM m) all l := by
 unfold reach_row_lay_O
 refine loop_inv (fun k i (s : List Int × List (Int × Unit)) => reach_row_lay_l7 N l ⟨m, all, met, d⟩ k (i : Int) s.1 s.2) l.length (fun i s => Tr m s.1 s.2 ∧ s.1 = layL (hasM m) all (l.take i)) _ ?_ ?_ N 0 (all, met) (by omega) (by omega) ⟨ht, rfl⟩
 ·rintro k i ⟨al, mt⟩ hi ⟨h1, h2⟩ go
  show Sat (reach_row_lay_l7 N l ⟨m, all, met, d⟩ (k + 1) i al mt) _
  simp only at h1 h2
  have hx64 := h64 l[i] (List.getElem_mem _)
  have hnext : layL (hasM m) all (l.take (i + 1)) = (bif hasM m l[i] && !decide (l[i] ∈ al) then al ++ [l[i]] else al) := by
   rw [take_succ_get hi, layL_two, ← h2]; rfl
  rw [reach_row_lay_l7_s, lt_t (by omega), ct, getE_n hi, bs, lk_mem]
  unfold reach_row_lay_j12
  rw [r64 (a := (i : Int) + 1) (by omega) (by omega), r64 (a := (i : Int) + 1) (by omega) (by omega)]
  by_cases hm : l[i] ∈ al
  ·rw [decide_eq_true ((h1.mem _).2 hm)]
   simp only [nt, cf, bs]
   exact go (al, mt) ⟨h1, by rw [hnext, decide_eq_true hm]; simp⟩
  ·rw [decide_eq_false (fun h => hm ((h1.mem _).1 h))]
   simp only [nf, ct, bs, has_prog N m _ hx64]
   cases hh : hasM m l[i]
   ·simp only [cf]
    exact go (al, mt) ⟨h1, by rw [hnext, hh]; rfl⟩
   ·simp only [ct]
    have hlen := h1.len hs
    rw [rF (by simp; omega)]
    exact go (al ++ [l[i]], upL mt l[i] ()) ⟨h1.add hm hh, by rw [hnext, hh, decide_eq_false hm]; rfl⟩
 ·rintro k ⟨al, mt⟩ ⟨h1, h2⟩
  show Sat (reach_row_lay_l7 N l ⟨m, all, met, d⟩ (k + 1) _ al mt) _
  rw [reach_row_lay_l7_s, lt_f (by omega), cf]
  exact sat_some ⟨rfl, rfl, h1, by simpa using h2⟩
theorem through_fun (N : Nat) (hN : 5000 < N) {m : DMemory} {roots : List DValue} (hs : Small m roots) (hw : W64 m) {all : List Int} {met : List (Int × Unit)} (ht : Tr m all met) (k : Nat) (hk : k ≤ all.length) :
  Sat (reach_row_through_O N ⟨m, all, met, (k : Int)⟩) fun r => r.m_ = m ∧ r.done_ = (r.all_.length : Int) ∧ Tr m r.all_ r.met_ ∧ Thr (grM N m) all k r.all_ := by
 unfold reach_row_through_O
 refine loop_dec (fun f (s : List Int × List (Int × Unit) × Nat) => reach_row_through_l6 N f m.Young m.Old s.1 s.2.1 (s.2.2 : Int)) (fun s => 1300 - s.2.2) (fun s => Tr m s.1 s.2.1 ∧ s.2.2 ≤ s.1.length ∧ ∀ r, Thr (grM N m) s.1 s.2.2 r → Thr (grM N m) all k r) _ ?_ N (all, met, k) (by show 1300 - k < N; omega) ⟨ht, hk, fun _ h => h⟩
 rintro f ⟨al, mt, j⟩ ⟨h1, h3, h4⟩ go
 show Sat (reach_row_through_l6 N (f + 1) m.Young m.Old al mt (j : Int)) _
 simp only at h1 h3 h4
 have hlen := h1.len hs
 rw [reach_row_through_l6_s]
 by_cases hj : j < al.length
 ·have hx := List.getElem_mem hj
  have hat := at_prog N hs al[j] (h1.in64 hs hx)
  have hsm := hs.at_ al[j]
  obtain ⟨hl1, hl2⟩ := leads_ok hs hw al[j]
  rw [lt_t (by omega), ct, getE_n hj, bs]
  have hat' : reach_At_O N ⟨m.Young, m.Old⟩ al[j] = some (atM m al[j]) := hat
  rw [hat', bs, leads_prog N (by omega) _ (by omega) (by omega), bs]
  refine Sat.bind (lay_fun N hN hs (j : Int) _ hl1 hl2 h1) ?_
  rintro ⟨m', al', mt', d'⟩ ⟨e1, e2, h5, h6⟩
  simp only at e1 e2 h5 h6
  subst e1 e2
  have hlen' := h5.len hs
  dsimp only
  rw [r64 (by omega) (by omega)]
  have hge : al.length ≤ al'.length := by
   obtain ⟨t, e, -⟩ := layL_app (hasM m') al (leadsL (atM m' al[j]))
   rw [h6, e, List.length_append]; omega
  have hgo := go (al', mt', j + 1) (by show 1300 - (j + 1) < 1300 - j; omega) ⟨h5, by show j + 1 ≤ al'.length; omega, fun r hr => h4 r (.step (List.getElem?_eq_getElem hj) (by rw [h6] at hr; exact hr))⟩
  simpa using hgo
 ·have : j = al.length := by omega
  subst this
  rw [lt_f (by omega), cf]
  exact sat_some ⟨rfl, rfl, h1, h4 _ (.done (Nat.le_refl _))⟩
theorem begin_fun (N : Nat) (hN : 5000 < N) {m : DMemory} {roots : List DValue} (hs : Small m roots) (hw : W64 m) (hr : ∀ v ∈ roots, in64 v.N) :
  Sat (reach_begin_O N m roots) fun r => r.m_ = m ∧ r.done_ = (r.all_.length : Int) ∧ Tr m r.all_ r.met_ ∧ Thr (grM N m) (layL (hasM m) [] (addrL roots)) 0 r.all_ := by
 have hrl := hs.roots
 unfold reach_begin_O
 refine loop_inv (fun k i (s : List Int × List (Int × Unit)) => reach_begin_l14 N roots k (i : Int) m.Young m.Old s.1 s.2 0) roots.length (fun i s => Tr m s.1 s.2 ∧ s.1 = layL (hasM m) [] (addrL (roots.take i))) _ ?_ ?_ N 0 ([], []) (by omega) (by omega) ⟨⟨by simp, by simp, by simp⟩, rfl⟩
 ·rintro k i ⟨al, mt⟩ hi ⟨h1, h2⟩ go
  show Sat (reach_begin_l14 N roots (k + 1) (i : Int) m.Young m.Old al mt 0) _
  simp only at h1 h2
  have hx64 := hr roots[i] (List.getElem_mem _)
  have ha : reach_address_O N roots[i] = some (roots[i].N, hasB roots[i]) := by
   unfold reach_address_O; rw [kind_has, bs]
  have hnext : layL (hasM m) [] (addrL (roots.take (i + 1))) = layL (hasM m) al (addrL [roots[i]]) := by
   rw [take_succ_get hi, addrL_app, layL_two, ← h2]
  rw [reach_begin_l14_s, lt_t (by omega), ct, getE_n hi, bs]
  unfold reach_begin_c1_O
  rw [ha, bs]
  cases hb : hasB roots[i]
  ·simp only [cf, bs]
   rw [r64 (by omega) (by omega)]
   refine go (al, mt) ⟨h1, ?_⟩
   rw [hnext]; simp [addrL, hb, layL]
  ·simp only [ct]
   obtain ⟨⟨m', al', mt', d'⟩, e0, e1, e2, h5, h6⟩ := lay_fun N hN hs 0 [roots[i].N] (by simp) (by intro x hx; rw [List.mem_singleton] at hx; subst hx; exact hx64) h1
   simp only at e1 e2 h5 h6
   subst e1 e2
   have e0' : reach_row_lay_O N ⟨⟨m'.Young, m'.Old⟩, al, mt, 0⟩ [roots[i].N] = some ⟨m', al', mt', 0⟩ := e0
   rw [e0', bs, bs]
   dsimp only
   rw [r64 (by omega) (by omega)]
   refine go (al', mt') ⟨h5, ?_⟩
   show al' = _
   rw [hnext, h6]; simp [addrL, hb]
 ·rintro k ⟨al, mt⟩ ⟨h1, h2⟩
  show Sat (reach_begin_l14 N roots (k + 1) _ m.Young m.Old al mt 0) _
  rw [reach_begin_l14_s, lt_f (by omega), cf]
  unfold reach_begin_j8
  refine Sat.bind (through_fun N hN hs hw h1 0 (Nat.zero_le _)) ?_
  rintro r ⟨e1, e2, h5, h6⟩
  simp only [List.take_length] at h2
  exact sat_some ⟨e1, e2, h5, by rw [← h2]; exact h6⟩
theorem opens_ok (N : Nat) {m : DMemory} {roots : List DValue} (hs : Small m roots) (hw : W64 m) (a : Int) (l : List Int) : (opensL N (atM m a) l).length ≤ 2000 ∧ ∀ x ∈ opensL N (atM m a) l, in64 x := by
 have h1 := hs.at_ a
 have h2 := opensL_len N (atM m a) l
 refine ⟨by omega, fun x hx => ?_⟩
 obtain ⟨v, h3, rfl⟩ := opensL_mem hx
 exact hw.at_ a v h3
theorem pass_fun (N : Nat) (hN : 5000 < N) {m : DMemory} {roots : List DValue} (hs : Small m roots) (hw : W64 m) {all : List Int} {met : List (Int × Unit)} (ht : Tr m all met) (d : Int) :
  Sat (reach_row_pass_O N ⟨m, all, met, d⟩) fun r => r.2.m_ = m ∧ r.2.done_ = d ∧ Tr m r.2.all_ r.2.met_ ∧ r.1 = decide ((all.length : Int) < (r.2.all_.length : Int)) ∧ r.2.all_ = passL (grM N m) all all := by
 have hlen := ht.len hs
 unfold reach_row_pass_O
 refine loop_inv (fun k i (s : List Int × List (Int × Unit)) => reach_row_pass_l13 N ⟨m, all, met, d⟩ k (i : Int) m.Young m.Old s.1 s.2 d) all.length (fun i s => Tr m s.1 s.2 ∧ (∃ t, s.1 = all ++ t) ∧ s.1 = passL (grM N m) all (all.take i)) _ ?_ ?_ N 0 (all, met) (by omega) (by omega) ⟨ht, ⟨[], by simp⟩, rfl⟩
 ·rintro k i ⟨al, mt⟩ hi ⟨h1, ⟨t, h2⟩, h3⟩ go
  show Sat (reach_row_pass_l13 N ⟨m, all, met, d⟩ (k + 1) (i : Int) m.Young m.Old al mt d) _
  simp only at h1 h2 h3
  have hlen1 := h1.len hs
  have htk : List.take all.length al = all := by rw [h2, List.take_left']; rfl
  have hx := List.getElem_mem hi
  have hsm := hs.at_ all[i]
  have hat : reach_At_O N ⟨m.Young, m.Old⟩ all[i] = some (atM m all[i]) := at_prog N hs all[i] (ht.in64 hs hx)
  have hnext : passL (grM N m) all (all.take (i + 1)) = layL (hasM m) al (opensL N (atM m all[i]) al) := by
   rw [take_succ_get hi, passL_two, ← h3]; rfl
  rw [reach_row_pass_l13_s]
  simp only [List.take_length]
  rw [lt_t (by omega), ct, htk, getE_n hi, bs, hat, bs]
  unfold reach_row_pass_j21
  by_cases h8 : (atM m all[i]).Kind = 8
  ·rw [eq_t h8, ct, opens_prog N hN al (by omega) _ (by omega) (by omega), bs]
   obtain ⟨hl1, hl2⟩ := opens_ok N hs hw all[i] al
   obtain ⟨⟨m', al', mt', d'⟩, e0, e1, e2, h5, h6⟩ := lay_fun N hN hs d _ hl1 hl2 h1
   simp only at e1 e2 h5 h6
   subst e1 e2
   have e0' : reach_row_lay_O N ⟨⟨m'.Young, m'.Old⟩, al, mt, d'⟩ (opensL N (atM m' all[i]) al) = some ⟨m', al', mt', d'⟩ := e0
   rw [e0', bs]
   dsimp only
   rw [r64 (by omega) (by omega)]
   obtain ⟨t', e', -⟩ := layL_app (hasM m') al (opensL N (atM m' all[i]) al)
   exact go (al', mt') ⟨h5, ⟨t ++ t', by show al' = _; rw [h6, e', h2, List.append_assoc]⟩, by show al' = _; rw [hnext, h6]⟩
  ·rw [eq_f h8, cf, r64 (by omega) (by omega)]
   refine go (al, mt) ⟨h1, ⟨t, h2⟩, ?_⟩
   have h0 : opensL N (atM m all[i]) al = [] := by
    unfold opensL isWM
    rw [eq_f h8]; rfl
   show al = _
   rw [hnext, h0]; rfl
 ·rintro k ⟨al, mt⟩ ⟨h1, ⟨t, h2⟩, h3⟩
  show Sat (reach_row_pass_l13 N ⟨m, all, met, d⟩ (k + 1) _ m.Young m.Old al mt d) _
  rw [reach_row_pass_l13_s]
  simp only [List.take_length] at h3 ⊢
  rw [lt_f (by omega), cf]
  exact sat_some ⟨rfl, rfl, h1, rfl, h3⟩
theorem order_fun (N : Nat) (hN : 5000 < N) {m : DMemory} {roots : List DValue} (hs : Small m roots) (hw : W64 m) (hr : ∀ v ∈ roots, in64 v.N) :
  ∃ b all, IsOrder (grM N m) (addrL roots) b.all_ all ∧ all.length ≤ 1200 ∧ b.all_.length ≤ 1200 ∧ reach_begin_O N m roots = some b ∧ reach_Order_O N m roots = some all := by
 obtain ⟨⟨m', al0, mt0, d0⟩, e0, e1, e2, h1, h2⟩ := begin_fun N hN hs hw hr
 simp only at e1 e2 h1 h2
 subst e1 e2
 have hlen0 := h1.len hs
 have key : Sat (reach_Order_O N m' roots) fun all => Ord (grM N m') al0 all ∧ all.length ≤ 1200 := by
  unfold reach_Order_O
  rw [e0, bs]
  refine loop_dec (fun f (s : List Int × List (Int × Unit)) => reach_Order_l17 N f m'.Young m'.Old s.1 s.2 (s.1.length : Int)) (fun s => 1300 - s.1.length) (fun s => Tr m' s.1 s.2 ∧ ∀ r, Ord (grM N m') s.1 r → Ord (grM N m') al0 r) _ ?_ N (al0, mt0) (by show 1300 - al0.length < N; omega) ⟨h1, fun _ h => h⟩
  rintro f ⟨al, mt⟩ ⟨h4, h5⟩ go
  show Sat (reach_Order_l17 N (f + 1) m'.Young m'.Old al mt (al.length : Int)) _
  simp only at h4 h5
  have hlen := h4.len hs
  rw [reach_Order_l17_s]
  obtain ⟨⟨b, m2, al2, mt2, d2⟩, g0, g1, g2, g3, g5, g6⟩ := pass_fun N hN hs hw h4 (al.length : Int)
  simp only at g1 g2 g3 g5 g6
  subst g1 g2
  have hlen2 := g3.len hs
  have g0' : reach_row_pass_O N ⟨⟨m2.Young, m2.Old⟩, al, mt, (al.length : Int)⟩ = some (b, ⟨m2, al2, mt2, (al.length : Int)⟩) := g0
  obtain ⟨t2, ht2⟩ := passL_app (grM N m2) al al
  rw [g0', bs]
  dsimp only
  rw [g5]
  refine sat_dec (fun hlt => ?_) fun hge => ?_
  ·refine Sat.bind (through_fun N hN hs hw g3 al.length (by omega)) ?_
   rintro ⟨m3, al3, mt3, d3⟩ ⟨k1, k2, k3, k4⟩
   simp only at k1 k2 k3 k4
   subst k1 k2
   have hlen3 := k3.len hs
   refine go (al3, mt3) ?_ ⟨k3, fun r h => h5 r (.step ?_ (by rw [← g6]; exact k4) h)⟩
   ·show 1300 - al3.length < 1300 - al.length
    obtain ⟨t3, e3⟩ := k4.app
    have : al2.length ≤ al3.length := by rw [e3, List.length_append]; omega
    omega
   ·rw [← g6]; intro e; rw [e] at hlt; omega
  ·have e : al2 = al := by
    rw [ht2] at g6
    have h0 : t2 = [] := List.eq_nil_of_length_eq_zero (by rw [g6, List.length_append] at hge; omega)
    rw [g6, h0, List.append_nil]
   subst e
   unfold reach_Order_j11
   exact sat_some ⟨h5 _ (.done g6.symm), by omega⟩
 obtain ⟨all, k1, k2, k3⟩ := key
 exact ⟨⟨m', al0, mt0, (al0.length : Int)⟩, all, ⟨h2, k2⟩, k3, hlen0, e0, k1⟩
end Go.Proofs.YtmbaennilhdieaaGreat
/- Plain: sorted addresses, the examples, small memories. -/
namespace Go.Proofs.YtmbaennilhdieaaGreat
open Go.RowKit
theorem sortL_mem (l : List Int) (x : Int) : x ∈ sortL l ↔ x ∈ l := by unfold sortL; exact List.mem_mergeSort
theorem sortL_asc {l : List Int} (h : l.Nodup) : (sortL l).Pairwise (· < ·) := by
 have h1 : (sortL l).Pairwise fun a b => decide (a ≤ b) = true := List.pairwise_mergeSort (by intro a b c h1 h2; simp at *; omega) (by intro a b; simp; omega) l
 have h2 : (sortL l).Nodup := (List.mergeSort_perm l _).nodup_iff.2 h
 rw [List.nodup_iff_pairwise_ne] at h2
 exact h1.imp₂ (fun a b h3 h4 => by simp at h3; omega) h2
theorem sortL_eq {l s : List Int} (h : l.Nodup) (hs : s.Pairwise (· < ·)) (he : ∀ x, x ∈ l ↔ x ∈ s) : sortL l = s := asc_ext (sortL_asc h) hs fun x => (sortL_mem l x).trans (he x)
theorem sort_spec (N : Nat) (l : List Int) (h : l.length ≤ 5000) : slices_Sort_O N l = some (sortL l) := by
 unfold slices_Sort_O; rw [rF (by omega)]
def obj (n : Int) : DValue := ⟨7, n, ⟨#[]⟩⟩
def boxC' (l : List DValue) : DCell := ⟨11, 0, 0, 0, [], l⟩
def exM : DMemory := ⟨[⟨11, 0, 0, 0, [], [⟨7, 3, ⟨#[]⟩⟩, ⟨7, 2, ⟨#[]⟩⟩]⟩, ⟨11, 0, 0, 0, [], []⟩], [⟨11, 0, 0, 0, [], []⟩]⟩
def exW : DMemory := ⟨[⟨8, 0, 0, 0, [⟨1, 0, ⟨#[]⟩⟩], [⟨7, 3, ⟨#[]⟩⟩, ⟨7, 5, ⟨#[]⟩⟩]⟩, ⟨11, 0, 0, 0, [], []⟩, ⟨11, 0, 0, 0, [], []⟩], []⟩
theorem live_of {N : Nat} {m : DMemory} {roots : List DValue} {l s : List Int} (h : reach_Order_O N m roots = some l) (hl : l.length ≤ 5000) (hs : sortL l = s) : reach_Live_O N m roots = some s := by
 unfold reach_Live_O
 rw [h, bs, sort_spec N l hl, bs, hs]
end Go.Proofs.YtmbaennilhdieaaGreat
/- Plain: the reference's traversal is the one of the relation. -/
namespace Go.Proofs.YtmbaennilhdieaaGreat
open Go.RowKit
structure Tq (m : DMemory) (all : List Int) : Prop where
 nd : all.Nodup
 has : ∀ x ∈ all, hasM m x = true
theorem Tq.len {m : DMemory} {roots : List DValue} (hs : Small m roots) {all : List Int} (h : Tq m all) : all.length ≤ 1200 := nodup_le 1200 h.nd fun x hx => ⟨by have := hasM_pos (h.has x hx); omega, by have := hasM_le hs (h.has x hx); omega⟩
theorem Tq.in64 {m : DMemory} {roots : List DValue} (hs : Small m roots) {all : List Int} (h : Tq m all) {x : Int} (hx : x ∈ all) : in64 x := by
 have h1 := hasM_pos (h.has x hx)
 have h2 := hasM_le hs (h.has x hx)
 unfold Go.Proofs.YtmbaennilhdieaaGreat.in64; omega
theorem Tq.lay {m : DMemory} {all : List Int} (h : Tq m all) (l : List Int) : Tq m (layL (hasM m) all l) := ⟨layL_nodup l h.nd, fun x hx => (layL_new hx).elim (h.has x) (·.1)⟩
theorem rlay_fun (N : Nat) {m : DMemory} {roots : List DValue} (hN : 5000 < N) (hs : Small m roots) (l : List Int) (hl : l.length ≤ 2000) (h64 : ∀ x ∈ l, in64 x) {all : List Int} (ht : Tq m all) : r19_lay_O N m all l = some (layL (hasM m) all l) := by
 apply Sat.eq
 unfold r19_lay_O
 refine loop_inv (fun k i (s : List Int) => r19_lay_l8 N l m k s (i : Int)) l.length (fun i s => Tq m s ∧ s = layL (hasM m) all (l.take i)) _ ?_ ?_ N 0 all (by omega) (by omega) ⟨ht, rfl⟩
 ·rintro k i s hi ⟨h0, h1⟩ go
  show Sat (r19_lay_l8 N l m (k + 1) s (i : Int)) _
  have hx64 := h64 l[i] (List.getElem_mem _)
  have hsl := h0.len hs
  have hnext : layL (hasM m) all (l.take (i + 1)) = (bif hasM m l[i] && !decide (l[i] ∈ s) then s ++ [l[i]] else s) := by
   rw [take_succ_get hi, layL_two, ← h1]; rfl
  have hT : Tq m (layL (hasM m) all (l.take (i + 1))) := ht.lay _
  rw [r19_lay_l8_s, lt_t (by omega), ct]
  simp only [getE_n hi, bs, has_ref N m _ hx64, in19 N hN s (by omega) l[i]]
  unfold r19_lay_j12
  cases hh : hasM m l[i]
  ·simp only [cf, bs]
   rw [r64 (by omega) (by omega)]
   exact go s ⟨h0, by rw [hnext, hh]; rfl⟩
  ·simp only [ct, bs]
   by_cases hm : l[i] ∈ s
   ·rw [decide_eq_true hm]
    simp only [nt, cf]
    rw [r64 (by omega) (by omega)]
    exact go s ⟨h0, by rw [hnext, hh, decide_eq_true hm]; rfl⟩
   ·have e : layL (hasM m) all (l.take (i + 1)) = s ++ [l[i]] := by rw [hnext, hh, decide_eq_false hm]; rfl
    rw [decide_eq_false hm]
    simp only [nf, ct]
    rw [rF (by simp; omega), r64 (by omega) (by omega)]
    exact go (s ++ [l[i]]) ⟨e ▸ hT, e.symm⟩
 ·rintro k s ⟨h0, h1⟩
  show Sat (r19_lay_l8 N l m (k + 1) s _) _
  rw [r19_lay_l8_s, lt_f (by omega), cf]
  exact sat_some (by simpa using h1)
theorem raddr_fun (N : Nat) (hN : 5000 < N) (l : List DValue) (hl : l.length ≤ 2000) : r19_addresses_O N l = some (addrL l) := by
 apply Sat.eq
 unfold r19_addresses_O
 refine loop_inv (fun k i (s : List Int) => r19_addresses_l5 N l k s (i : Int)) l.length (fun i s => s = addrL (l.take i)) _ ?_ ?_ N 0 [] (by omega) (by omega) rfl
 ·rintro k i s hi h1 go
  show Sat (r19_addresses_l5 N l (k + 1) s (i : Int)) _
  have hsl : s.length ≤ 2000 := by
   rw [h1]; unfold addrL; rw [List.length_map]
   exact Nat.le_trans (List.length_filter_le _ _) (by rw [List.length_take]; omega)
  have hnext : addrL (l.take (i + 1)) = s ++ addrL [l[i]] := by rw [take_succ_get hi, addrL_app, h1]
  rw [r19_addresses_l5_s, lt_t (by omega), ct]
  simp only [getE_n hi, bs, kind_has]
  unfold r19_addresses_j9
  cases hb : hasB l[i]
  ·simp only [cf]
   rw [r64 (by omega) (by omega)]
   exact go s (by rw [hnext]; simp [addrL, hb])
  ·simp only [ct]
   rw [rF (by simp; omega), r64 (by omega) (by omega)]
   exact go (s ++ [l[i].N]) (by rw [hnext]; simp [addrL, hb])
 ·rintro k s h1
  show Sat (r19_addresses_l5 N l (k + 1) s _) _
  rw [r19_addresses_l5_s, lt_f (by omega), cf]
  exact sat_some (by simpa using h1)
theorem rthrough_fun (N : Nat) (hN : 5000 < N) {m : DMemory} {roots : List DValue} (hs : Small m roots) (hw : W64 m) {all : List Int} (ht : Tq m all) (k : Nat) (hk : k ≤ all.length) :
  Sat (r19_through_O N m all (k : Int)) fun r => Tq m r ∧ Thr (grM N m) all k r := by
 unfold r19_through_O
 refine loop_dec (fun f (s : List Int × Nat) => r19_through_l7 N m f s.1 (s.2 : Int)) (fun s => 1300 - s.2) (fun s => Tq m s.1 ∧ s.2 ≤ s.1.length ∧ ∀ r, Thr (grM N m) s.1 s.2 r → Thr (grM N m) all k r) _ ?_ N (all, k) (by show 1300 - k < N; omega) ⟨ht, hk, fun _ h => h⟩
 rintro f ⟨al, j⟩ ⟨h1, h3, h4⟩ go
 show Sat (r19_through_l7 N m (f + 1) al (j : Int)) _
 simp only at h1 h3 h4
 have hlen := h1.len hs
 rw [r19_through_l7_s]
 by_cases hj : j < al.length
 ·have hx := List.getElem_mem hj
  have hsm := hs.at_ al[j]
  obtain ⟨hl1, hl2⟩ := leads_ok hs hw al[j]
  rw [lt_t (by omega), ct, getE_n hj, bs, at_ref N m _ (h1.in64 hs hx), bs, leads_ref N (by omega) _ (by omega) (by omega), bs, rlay_fun N hN hs _ hl1 hl2 h1, bs, r64 (by omega) (by omega)]
  have hge : al.length ≤ (layL (hasM m) al (leadsL (atM m al[j]))).length := by
   obtain ⟨t, e, -⟩ := layL_app (hasM m) al (leadsL (atM m al[j]))
   rw [e, List.length_append]; omega
  exact go (layL (hasM m) al (leadsL (atM m al[j])), j + 1) (by show 1300 - (j + 1) < 1300 - j; omega) ⟨h1.lay _, by show j + 1 ≤ (layL (hasM m) al (leadsL (atM m al[j]))).length; omega, fun r hr => h4 r (.step (List.getElem?_eq_getElem hj) hr)⟩
 ·have : j = al.length := by omega
  subst this
  rw [lt_f (by omega), cf]
  exact sat_some ⟨h1, h4 _ (.done (Nat.le_refl _))⟩
theorem rorder_fun (N : Nat) (hN : 5000 < N) {m : DMemory} {roots : List DValue} (hs : Small m roots) (hw : W64 m) (hr : ∀ v ∈ roots, in64 v.N) :
  ∃ b all, IsOrder (grM N m) (addrL roots) b all ∧ r19_Order_O N m roots = some all ∧ ((r19_addresses_O N roots).bind fun y5 => (r19_lay_O N m ([] : List Int) y5).bind fun y8 => r19_through_O N m y8 0) = some b := by
 have hrl := hs.roots
 have ha := raddr_fun N hN roots (by omega)
 have h64 : ∀ x ∈ addrL roots, in64 x := fun x hx => by
  obtain ⟨v, h1, -, rfl⟩ := addrL_mem.1 hx
  exact hr v h1
 have hal : (addrL roots).length ≤ 2000 := by
  unfold addrL; rw [List.length_map]; exact Nat.le_trans (List.length_filter_le _ _) (by omega)
 have hT0 : Tq m [] := ⟨List.nodup_nil, by simp⟩
 have hlay := rlay_fun N hN hs (addrL roots) hal h64 hT0
 obtain ⟨b, b0, b1, b2⟩ := rthrough_fun N hN hs hw (hT0.lay (addrL roots)) 0 (Nat.zero_le _)
 have b0' : r19_through_O N m (layL (hasM m) [] (addrL roots)) 0 = some b := b0
 have key : Sat (r19_Order_O N m roots) fun all => Ord (grM N m) b all := by
  unfold r19_Order_O
  rw [ha, bs, hlay, bs, b0', bs]
  refine loop_dec (fun f (s : List Int) => r19_Order_l12 N m f s) (fun s => 1300 - s.length) (fun s => Tq m s ∧ ∀ r, Ord (grM N m) s r → Ord (grM N m) b r) _ ?_ N b (by show 1300 - b.length < N; omega) ⟨b1, fun _ h => h⟩
  rintro f al ⟨h4, h5⟩ go
  show Sat (r19_Order_l12 N m (f + 1) al) _
  have hlen := h4.len hs
  rw [r19_Order_l12_s]
  refine loop_inv (fun k i (s : List Int) => r19_Order_l16 N (r19_Order_l12 N m f) al m k s (i : Int)) al.length (fun i s => Tq m s ∧ (∃ t, s = al ++ t) ∧ s = passL (grM N m) al (al.take i)) _ ?_ ?_ N 0 al (by omega) (by omega) ⟨h4, ⟨[], by simp⟩, rfl⟩
  ·rintro k i s hi ⟨h0, ⟨t, h1⟩, h2⟩ go2
   show Sat (r19_Order_l16 N (r19_Order_l12 N m f) al m (k + 1) s (i : Int)) _
   have hsl := h0.len hs
   have hg : getE s (i : Int) = some al[i] := by
    rw [getE_nat, h1, List.getElem?_append_left hi, List.getElem?_eq_getElem hi]
   have hx := List.getElem_mem hi
   have hsm := hs.at_ al[i]
   obtain ⟨hl1, hl2⟩ := opens_ok N hs hw al[i] s
   have hnext : passL (grM N m) al (al.take (i + 1)) = layL (hasM m) s (opensL N (atM m al[i]) s) := by
    rw [take_succ_get hi, passL_two, ← h2]; rfl
   rw [r19_Order_l16_s, lt_t (by omega), ct, hg, bs, at_ref N m _ (h4.in64 hs hx), bs, opens_ref N hN s (by omega) _ (by omega) (by omega), bs, rlay_fun N hN hs _ hl1 hl2 h0, bs, r64 (by omega) (by omega)]
   obtain ⟨t', e', -⟩ := layL_app (hasM m) s (opensL N (atM m al[i]) s)
   exact go2 _ ⟨h0.lay _, ⟨t ++ t', by rw [e', h1, List.append_assoc]⟩, hnext.symm⟩
  ·rintro k s ⟨h0, ⟨t, h1⟩, h2⟩
   show Sat (r19_Order_l16 N (r19_Order_l12 N m f) al m (k + 1) s _) _
   have hsl := h0.len hs
   simp only [List.take_length] at h2
   rw [r19_Order_l16_s, lt_f (by omega), cf]
   unfold r19_Order_j14
   refine sat_dec (fun he => ?_) fun hne => ?_
   ·have h6 : t = [] := List.eq_nil_of_length_eq_zero (by rw [h1, List.length_append] at he; omega)
    have h7 : s = al := by rw [h1, h6, List.append_nil]
    exact sat_some (by rw [h7] at h2 ⊢; exact h5 _ (.done h2.symm))
   ·have hle : al.length ≤ s.length := by rw [h1, List.length_append]; omega
    refine Sat.bind (rthrough_fun N hN hs hw h0 al.length hle) fun r ⟨r1, r2⟩ => ?_
    obtain ⟨t3, e3⟩ := r2.app
    have hl3 := r1.len hs
    refine go r ?_ ⟨r1, fun r' hr' => h5 r' (.step ?_ (by rw [← h2]; exact r2) hr')⟩
    ·show 1300 - r.length < 1300 - al.length
     have : s.length ≤ r.length := by rw [e3, List.length_append]; omega
     omega
    ·rw [← h2]; intro e; rw [e] at hne; omega
 obtain ⟨all, k1, k2⟩ := key
 exact ⟨b, all, ⟨b2, k2⟩, k1, by rw [ha, bs, hlay, bs]; exact b0'⟩
end Go.Proofs.YtmbaennilhdieaaGreat
/- Plain: the reference's sorted copies. -/
namespace Go.Proofs.YtmbaennilhdieaaGreat
open Go.RowKit
theorem swap_perm : ∀ {s : List Int} {k : Nat} (h : k + 1 < s.length), ((s.set (k + 1) (s[k]'(by omega))).set k s[k + 1]).Perm s
 | a :: b :: r, 0, _ => List.Perm.swap a b r
 | a :: r, k + 1, h => by
  have ih := swap_perm (s := r) (k := k) (by simpa using h)
  simp only [List.set_cons_succ, List.getElem_cons_succ]
  exact ih.cons a
def Ins (s : List Int) (i k : Nat) : Prop := ∀ a b : Nat, a < b → b ≤ i → b ≠ k → s.getD a 0 ≤ s.getD b 0
theorem getD_set (s : List Int) (i j : Nat) (x : Int) (hi : i < s.length) : (s.set i x).getD j 0 = if j = i then x else s.getD j 0 := by
 by_cases e : j = i
 ·subst e; simp [List.getD, hi]
 ·rw [if_neg e]
  simp only [List.getD]
  rw [List.getElem?_set_ne (fun h => e h.symm)]
theorem getD_at (s : List Int) (i : Nat) (hi : i < s.length) : s.getD i 0 = s[i] := by simp [List.getD, hi]
theorem rising_fun (N : Nat) (hN : 5000 < N) (l : List Int) (hl : l.length ≤ 2000) (hn : l.Nodup) : r19_rising_O N l = some (sortL l) := by
 apply Sat.eq
 unfold r19_rising_O
 rw [rF (by simp; omega), List.nil_append]
 have fin : ∀ s : List Int, s.Perm l → Ins s (l.length - 1) l.length → s = sortL l := fun s hp hi => by
  have hlen := hp.length_eq
  have hnd : s.Nodup := hp.nodup_iff.2 hn
  refine (sortL_eq hn (List.pairwise_iff_getElem.2 fun a b ha hb hab => ?_) fun x => (hp.mem_iff).symm).symm
  have h1 := hi a b hab (by omega) (by omega)
  rw [getD_at s a ha, getD_at s b hb] at h1
  have h2 := List.pairwise_iff_getElem.1 (List.nodup_iff_pairwise_ne.1 hnd) a b ha hb hab
  omega
 by_cases h0 : l.length = 0
 ·have e : l = [] := List.eq_nil_of_length_eq_zero h0
  subst e
  obtain ⟨n, rfl⟩ : ∃ n, N = n + 1 := ⟨N - 1, by omega⟩
  rw [r19_rising_l7_s, lt_f (by simp), cf]
  exact sat_some (by unfold sortL; simp)
 refine loop_inv (fun k i (s : List Int) => r19_rising_l7 N k s (i : Int)) l.length (fun i s => s.Perm l ∧ Ins s (i - 1) l.length) _ ?_ ?_ N 1 l (by omega) (by omega) ⟨List.Perm.refl _, fun a b h1 h2 => absurd h2 (by omega)⟩
 ·rintro f i s hi ⟨h1, h2⟩ go
  show Sat (r19_rising_l7 N (f + 1) s (i : Int)) _
  have hlen := h1.length_eq
  rw [r19_rising_l7_s, hlen, lt_t (by omega), ct]
  have hi0 : i ≤ l.length := by omega
  refine loop_dec (fun k (st : List Int × Nat) => r19_rising_l13 N (r19_rising_l7 N f) (i : Int) k st.1 (st.2 : Int)) (fun st => st.2) (fun st => st.1.Perm l ∧ st.2 ≤ i ∧ Ins st.1 i st.2) _ ?_ N (s, i) (by show i < N; omega) ⟨h1, Nat.le_refl _, fun a b q1 q2 q3 => h2 a b q1 (by show b ≤ i - 1; simp only at q3; omega) (by omega)⟩
  rintro k ⟨t, j⟩ ⟨g1, g2, g3⟩ go2
  simp only at g1 g2 g3
  show Sat (r19_rising_l13 N (r19_rising_l7 N f) (i : Int) (k + 1) t (j : Int)) _
  have hlt := g1.length_eq
  have stop : (j = 0 ∨ t.getD (j - 1) 0 ≤ t.getD j 0) → Sat (r19_rising_j11 N (r19_rising_l7 N f) (i : Int) t) (· = sortL l) := fun hst => by
   unfold r19_rising_j11
   rw [r64 (by omega) (by omega)]
   refine go t ⟨g1, fun a b q1 q2 q3 => ?_⟩
   have q2' : b ≤ i := by omega
   by_cases e : b = j
   ·subst e
    rcases hst with h | h
    ·omega
    ·by_cases e2 : a = b - 1
     ·subst e2; exact h
     ·have := g3 a (b - 1) (by omega) (by omega) (by omega); omega
   ·exact g3 a b q1 q2' e
  rw [r19_rising_l13_s]
  by_cases hj : 0 < j
  ·have hp : getE t ((j : Int) - 1) = some (t[j - 1]'(by omega)) := by
    have := getE_n (xs := t) (i := j - 1) (by omega)
    rw [show (((j - 1 : Nat)) : Int) = (j : Int) - 1 by omega] at this
    exact this
   have hq : getE t (j : Int) = some (t[j]'(by omega)) := getE_n (by omega)
   rw [lt_t (by omega), ct, r64 (by omega) (by omega), hp, bs, hq, bs, bs]
   by_cases hc : t[j]'(by omega) < t[j - 1]'(by omega)
   ·rw [lt_t hc, ct, bs, r64 (a := (j : Int) - 1) (by omega) (by omega), bs, bs, r64 (a := (j : Int) - 1) (by omega) (by omega)]
    have hs2 : getE (List.set t (j : Int).toNat (t[j - 1]'(by omega))) ((j : Int) - 1) = some ((List.set t (j : Int).toNat (t[j - 1]'(by omega)))[j - 1]'(by simp; omega)) := by
     have := getE_n (xs := List.set t (j : Int).toNat (t[j - 1]'(by omega))) (i := j - 1) (by simp; omega)
     rw [show (((j - 1 : Nat)) : Int) = (j : Int) - 1 by omega] at this
     exact this
    rw [hs2, bs, r64 (a := (j : Int) - 1) (by omega) (by omega), Int.toNat_natCast, show ((j : Int) - 1).toNat = j - 1 by omega, show (j : Int) - 1 = ((j - 1 : Nat) : Int) by omega]
    obtain ⟨q, rfl⟩ : ∃ q, j = q + 1 := ⟨j - 1, by omega⟩
    simp only [Nat.add_sub_cancel] at *
    refine go2 ((t.set (q + 1) (t[q]'(by omega))).set q (t[q + 1]'(by omega)), q) (by show q < q + 1; omega) ⟨(swap_perm (by omega)).trans g1, by show q ≤ i; omega, fun a b q1 q2 q3 => ?_⟩
    have q3' : b ≠ q := q3
    have hqa := getD_at t q (by omega)
    have hqb := getD_at t (q + 1) (by omega)
    show ((t.set (q + 1) (t[q]'(by omega))).set q (t[q + 1]'(by omega))).getD a 0 ≤ ((t.set (q + 1) (t[q]'(by omega))).set q (t[q + 1]'(by omega))).getD b 0
    rw [getD_set _ q _ _ (by simp; omega), getD_set _ q _ _ (by simp; omega), getD_set t (q + 1) _ _ (by omega), getD_set t (q + 1) _ _ (by omega), if_neg q3']
    by_cases b1 : b = q + 1
    ·rw [if_pos b1]
     by_cases a1 : a = q
     ·rw [if_pos a1]; omega
     ·rw [if_neg a1, if_neg (by omega), ← hqa]
      exact g3 a q (by omega) (by omega) (by omega)
    ·rw [if_neg b1]
     by_cases a1 : a = q
     ·rw [if_pos a1, ← hqb]; exact g3 (q + 1) b (by omega) q2 b1
     ·rw [if_neg a1]
      by_cases a2 : a = q + 1
      ·rw [if_pos a2, ← hqa]; exact g3 q b (by omega) q2 b1
      ·rw [if_neg a2]; exact g3 a b q1 q2 b1
   ·rw [lt_f (by omega), cf]
    refine stop (.inr ?_)
    rw [getD_at t (j - 1) (by omega), getD_at t j (by omega)]; omega
  ·rw [lt_f (by omega), cf, bs, cf]
   exact stop (.inl (by omega))
 ·rintro f s ⟨h1, h2⟩
  show Sat (r19_rising_l7 N (f + 1) s _) _
  rw [r19_rising_l7_s, h1.length_eq, lt_f (by omega), cf]
  unfold r19_rising_j5
  exact sat_some (fin s h1 h2)
end Go.Proofs.YtmbaennilhdieaaGreat
/- Plain: weak references; equal lists, cells, memories; valid memories, on both sides. -/
namespace Go.Proofs.YtmbaennilhdieaaGreat
open Go.RowKit
def weaklyL (c : DCell) : List Int := pick (fun i v => weakB c.Kind i && hasB v) 0 c.More
theorem weakly_prog (N : Nat) (hN : 2000 < N) (c : DCell) (hS : c.Slots.length ≤ 1000) (hc : c.More.length ≤ 1000) : cell_Weakly_O N c = some (weaklyL c) := by
 unfold cell_Weakly_O weaklyL
 rw [addresses_spec N hN false c hS hc, bs]
 have e1 : (fun (_ : Nat) (v : DValue) => (true == false) && hasB v) = fun _ _ => false := by funext i v; rfl
 have e2 : (fun (i : Nat) (v : DValue) => (strongB c.Kind i == false) && hasB v) = fun i v => weakB c.Kind i && hasB v := by funext i v; rw [strong_weak]; cases weakB c.Kind i <;> rfl
 rw [e1, e2, pick_none, List.nil_append]
theorem weaklyL_len (c : DCell) : (weaklyL c).length ≤ c.More.length := pick_len _ 0 c.More
theorem weaklyL_mem {c : DCell} {x : Int} (h : x ∈ weaklyL c) : ∃ v ∈ c.Slots ++ c.More, v.N = x := by
 obtain ⟨v, h1, h2⟩ := pick_mem h
 exact ⟨v, List.mem_append_right _ h1, h2⟩
theorem weakly_ref (N : Nat) (hN : 2000 < N) (c : DCell) (hc : c.More.length ≤ 1000) : r15_Weakly_O N c = some (weaklyL c) := by
 apply Sat.eq
 unfold r15_Weakly_O weaklyL
 refine loop_inv (fun m i s => r15_Weakly_l6 N c m s (i : Int)) c.More.length (fun i t => t ++ pick (fun i v => weakB c.Kind i && hasB v) i (c.More.drop i) = pick (fun i v => weakB c.Kind i && hasB v) 0 c.More ∧ t.length ≤ i) _ ?_ ?_ N 0 [] (by omega) (by omega) ⟨by simp, by simp⟩
 ·rintro m i s hi ⟨h1, h2⟩ k
  show Sat (r15_Weakly_l6 N c (m + 1) s i) _
  rw [List.drop_eq_getElem_cons hi, pick_cons] at h1
  rw [r15_Weakly_l6_s, lt_t (by omega), ct, getE_n hi, bs, ref_has_spec, bs, weak_spec _ _ _ (by omega)]
  unfold r15_Weakly_j11
  simp only [bs]
  rw [r64 (a := (i : Int) + 1) (by omega) (by omega)]
  cases hh : hasB c.More[i] <;> cases hw : weakB c.Kind i <;> simp only [hh, hw, Bool.and_true, Bool.and_false, Bool.and_self, ct, cf, bs, List.nil_append] at h1 ⊢
  ·rw [r64 (by omega) (by omega)]; exact k s ⟨h1, by omega⟩
  ·rw [r64 (by omega) (by omega)]; exact k s ⟨h1, by omega⟩
  ·rw [r64 (by omega) (by omega)]; exact k s ⟨h1, by omega⟩
  ·rw [rF (by simp; omega)]
   exact k _ ⟨by rw [List.append_assoc]; exact h1, by simp; omega⟩
 ·rintro m s ⟨h1, h2⟩
  show Sat (r15_Weakly_l6 N c (m + 1) s _) _
  rw [List.drop_length] at h1
  rw [r15_Weakly_l6_s, lt_f (by omega), cf]
  exact sat_some (by rw [← h1]; simp [pick])
def wholeB (m : DMemory) (l : List Int) : Bool := l.all (hasM m)
def fineC (N : Nat) (m : DMemory) (c : DCell) : Bool := (r15_Right_O N c).getD false && (wholeB m (leadsL c) && wholeB m (weaklyL c))
def rightM (N : Nat) (m : DMemory) (roots : List DValue) : Bool := m.Young.all (fineC N m) && (m.Old.all (fineC N m) && wholeB m (addrL roots))
theorem weakly_ok {m : DMemory} {roots : List DValue} (hs : Small m roots) (hw : W64 m) {c : DCell} (hc : c ∈ m.Young ++ m.Old) : ((leadsL c).length ≤ 1200 ∧ ∀ x ∈ leadsL c, in64 x) ∧ (weaklyL c).length ≤ 1200 ∧ ∀ x ∈ weaklyL c, in64 x := by
 have h1 := hs.cells c hc
 have h2 := leadsL_len c
 have h3 := weaklyL_len c
 refine ⟨⟨by omega, fun x hx => ?_⟩, by omega, fun x hx => ?_⟩
 ·obtain ⟨v, h4, rfl⟩ := leadsL_mem hx
  exact hw c hc v h4
 ·obtain ⟨v, h4, rfl⟩ := weaklyL_mem hx
  exact hw c hc v h4
end Go.Proofs.YtmbaennilhdieaaGreat
/- Plain: memories of a bounded size. -/
namespace Go.Proofs.YtmbaennilhdieaaGreat
open Go.RowKit
structure Bnd (B : Nat) (m : DMemory) (roots : List DValue) : Prop where
 young : m.Young.length ≤ B
 old : m.Old.length ≤ B
 roots : roots.length ≤ B
 cells : ∀ c ∈ m.Young ++ m.Old, c.Slots.length ≤ B ∧ c.More.length ≤ B
end Go.Proofs.YtmbaennilhdieaaGreat
/- Plain: the weight of a memory. -/
namespace Go.Proofs.YtmbaennilhdieaaGreat
open Go.RowKit
def wt : List DCell → Nat
 | [] => 0
 | c :: l => 1 + c.Slots.length + c.More.length + wt l
def W6 (m : DMemory) (roots : List DValue) : Prop := roots.length + wt m.Young + wt m.Old ≤ 600
structure Wtd (m : DMemory) (roots : List DValue) : Prop where
 le : roots.length + wt m.Young + wt m.Old ≤ 2400
 cnt : m.Young.length + m.Old.length ≤ 600
end Go.Proofs.YtmbaennilhdieaaGreat
/- Plain: cleaned weak maps, bare registries, equal values. -/
namespace Go.Proofs.YtmbaennilhdieaaGreat
open Go.RowKit
def cleanL (p : Int → Bool) : List DValue → List DValue
 | k :: v :: r => (bif p k.N then [k, v] else []) ++ cleanL p r
 | _ => []
def cleanW (N : Nat) (l : List Int) (c : DCell) : DCell := bif isWM N c then ⟨c.Kind, c.Shape, c.Flags, c.Age, c.Slots, cleanL (fun x => decide (x ∈ l)) c.More⟩ else c
def isFR (N : Nat) (c : DCell) : Bool := decide (c.Kind = 10) && (r15_Right_O N c).getD false
def bareC (N : Nat) (c : DCell) : DCell := bif isFR N c then ⟨c.Kind, c.Shape, c.Flags, c.Age, c.Slots, c.More.take 1⟩ else c
def bareM (N : Nat) (m : DMemory) : DMemory := ⟨m.Young.map (bareC N), m.Old.map (bareC N)⟩
theorem in64_of {m : DMemory} {roots : List DValue} (hs : Small m roots) {x : Int} (h : hasM m x = true) : in64 x := by
 have h2 := hasM_pos h
 have h3 := hasM_le hs h
 unfold in64; omega
theorem opens_mono {p q : Int → Bool} (hpq : ∀ x, p x = true → q x = true) {x : Int} : ∀ {l : List DValue}, x ∈ opens p l → x ∈ opens q l
 | [], h => by simp [opens] at h
 | [_], h => by simp [opens] at h
 | k :: v :: r, h => by
  rw [opens_cons] at h ⊢
  rcases List.mem_append.1 h with h | h
  ·refine List.mem_append_left _ ?_
   cases hk : p k.N with
   | false => rw [hk, Bool.and_false] at h; cases h
   | true => rw [hk] at h; rw [hpq _ hk]; exact h
  ·exact List.mem_append_right _ (opens_mono hpq h)
end Go.Proofs.YtmbaennilhdieaaGreat
/- Plain: Alike holds where both sides are traversed alike and hold the same cells. -/
namespace Go.Proofs.YtmbaennilhdieaaGreat
open Go.RowKit
end Go.Proofs.YtmbaennilhdieaaGreat
/- Plain: what a collection makes of cells. -/
namespace Go.Proofs.YtmbaennilhdieaaGreat
open Go.RowKit
def zeroV : DValue := ⟨0, 0, ⟨#[]⟩⟩
def keptE (l : List Int) : List DValue → List DValue
 | t :: h :: k :: s :: r => (bif decide (t.N ∈ l) then [t, h, (bif decide (k.Kind = 7) && !decide (k.N ∈ l) then zeroV else k), s] else []) ++ keptE l r
 | _ => []
def toldE (l : List Int) (cb : DValue) : List DValue → List DValue
 | t :: h :: _ :: s :: r => (bif decide (t.N ∈ l) then [] else [cb, h, s]) ++ toldE l cb r
 | _ => []
def cleanF (l : List Int) (c : DCell) : DCell × List DValue := (⟨c.Kind, c.Shape, c.Flags, c.Age, c.Slots, c.More.take 1 ++ keptE l (c.More.drop 1)⟩, toldE l (c.More.headD zeroV) (c.More.drop 1))
end Go.Proofs.YtmbaennilhdieaaGreat
/- Plain: the new order of a major collection. -/
namespace Go.Proofs.YtmbaennilhdieaaGreat
open Go.RowKit
def evenB (a : Int) : Bool := decide (a.tmod 2 = 0)
def oddB (a : Int) : Bool := decide (a.tmod 2 = 1)
def newOrd (live : List Int) : List Int := live.filter evenB ++ live.filter oddB
end Go.Proofs.YtmbaennilhdieaaGreat
/- Plain: when two sides correspond. -/
namespace Go.Proofs.YtmbaennilhdieaaGreat
open Go.RowKit
def corr (ha hb : Int → Bool) (A B : List Int) (v w : DValue) : Bool :=
 bif !hasB v || !hasB w then decide (v = w)
 else decide (v.Kind = w.Kind) && (v.S.toList == w.S.toList) && (bif !decide (v.N ∈ A) || !decide (w.N ∈ B) then !decide (v.N ∈ A) && !decide (w.N ∈ B) && (ha v.N == hb w.N) else decide (A.idxOf v.N = B.idxOf w.N))
def corrL (ha hb : Int → Bool) (A B : List Int) (x y : List DValue) : Bool := decide (x.length = y.length) && (x.zip y).all fun p => corr ha hb A B p.1 p.2
def corrC (ha hb : Int → Bool) (A B : List Int) (c d : DCell) : Bool := decide (c.Kind = d.Kind) && decide (c.Shape = d.Shape) && decide (c.Flags = d.Flags) && corrL ha hb A B c.Slots d.Slots && corrL ha hb A B c.More d.More
def alikeS (N : Nat) (a : DMemory) (x : List DValue) (A : List Int) (b : DMemory) (y : List DValue) (B : List Int) : Bool :=
 decide (A.length = B.length) && corrL (hasM a) (hasM b) A B x y && (A.zip B).all fun p => corrC (hasM a) (hasM b) A B (cleanW N A (atM a p.1)) (cleanW N B (atM b p.2))
def PosM (kv : List (Int × Int)) (l : List Int) : Prop := ∀ x, lk kv x = if x ∈ l then some (l.idxOf x : Int) else none
structure SideOk (m : DMemory) (x : List DValue) (A : List Int) : Prop where
 small : Small m x
 w64 : W64 m
 x64 : ∀ v ∈ x, in64 v.N
 len : A.length ≤ 1200
 nd : A.Nodup
 has : ∀ a ∈ A, hasM m a = true
end Go.Proofs.YtmbaennilhdieaaGreat
/- Plain: the reference's Alike. -/
namespace Go.Proofs.YtmbaennilhdieaaGreat
open Go.RowKit
def keepL (p : Int → Bool) : List DValue → List Bool
 | k :: _ :: r => p k.N :: keepL p r
 | _ => []
end Go.Proofs.YtmbaennilhdieaaGreat
/- Plain: the major collection, as a function. -/
namespace Go.Proofs.YtmbaennilhdieaaGreat
open Go.RowKit
def addrC (c : DCell) : List Int := leadsL c ++ weaklyL c
def rightC (N : Nat) (c : DCell) : Bool := (r15_Right_O N c).getD false
def checkM (N : Nat) (m : DMemory) (roots : List DValue) : Int :=
 bif (m.Young ++ m.Old).all (rightC N) then bif wholeB m ((m.Young ++ m.Old).flatMap addrC ++ addrL roots) then 0 else 50 else 51
def rho (f : List Int) (a : Int) : Int := 2 * ((f.idxOf a : Nat) : Int) + 2
def movV (ρ : Int → Int) (f : List Int) (v : DValue) : DValue := bif hasB v && decide (v.N ∈ f) then ⟨v.Kind, ρ v.N, v.S⟩ else v
def movC (ρ : Int → Int) (f : List Int) (c : DCell) : DCell := ⟨c.Kind, c.Shape, c.Flags, c.Age, c.Slots.map (movV ρ f), c.More.map (movV ρ f)⟩
def RhoM (kv : List (Int × Int)) (f : List Int) : Prop := ∀ x, lk kv x = if x ∈ f then some (rho f x) else none
def clC (N : Nat) (l : List Int) (c : DCell) : DCell := bif decide (c.Kind = 8) then cleanW N l c else bif decide (c.Kind = 10) then (cleanF l c).1 else c
def told (l : List Int) (c : DCell) : List DValue := bif decide (c.Kind = 10) then (cleanF l c).2 else []
structure Coll where
 next : DMemory
 now : List DValue
 gone : List DValue
def collS (N : Nat) (m : DMemory) (roots : List DValue) (live f : List Int) : Coll :=
 ⟨⟨[], f.map fun a => movC (rho f) f (clC N live (atM m a))⟩, roots.map (movV (rho f) f), (f.flatMap fun a => told live (atM m a)).map (movV (rho f) f)⟩
end Go.Proofs.YtmbaennilhdieaaGreat
/- Plain: valid cells stay valid when their addresses move and dead entries go. -/
namespace Go.Proofs.YtmbaennilhdieaaGreat
open Go.RowKit
structure Mild (g : DValue → DValue) : Prop where
 z : g vZ = vZ
 kind : ∀ v, (g v).Kind = v.Kind
 num : ∀ v, v.Kind = 3 → g v = v
 may : ∀ v, mayB v = true → mayB (g v) = true
section
variable {g : DValue → DValue} (h : Mild g)
include h
end
structure Ren (ρ : Int → Int) (f : List Int) : Prop where
 inj : ∀ a b, a ∈ f → b ∈ f → ρ a = ρ b → a = b
 pos : ∀ a ∈ f, 1 ≤ ρ a
end Go.Proofs.YtmbaennilhdieaaGreat
/- Plain: a traversal under a renaming of addresses. No program in sight. -/
namespace Go.Proofs.YtmbaennilhdieaaGreat
open Go.RowKit
structure MapG (g g' : Gr) (ρ : Int → Int) (S : Int → Prop) : Prop where
 inj : ∀ a b, S a → S b → ρ a = ρ b → a = b
 has : ∀ a, S a → g.has a = true ∧ g'.has (ρ a) = true
 leads : ∀ a, S a → g'.leads (ρ a) = (g.leads a).map ρ ∧ ∀ x ∈ g.leads a, S x
 opens : ∀ row a, (∀ x ∈ row, S x) → S a → g'.opens (row.map ρ) (ρ a) = (g.opens row a).map ρ ∧ ∀ x ∈ g.opens row a, S x
end Go.Proofs.YtmbaennilhdieaaGreat
/- Plain: sums over distinct addresses. -/
namespace Go.Proofs.YtmbaennilhdieaaGreat
open Go.RowKit
def sumF {α : Type} (g : α → Nat) : List α → Nat
 | [] => 0
 | a :: l => g a + sumF g l
def wC (c : DCell) : Nat := 1 + c.Slots.length + c.More.length
def allA (m : DMemory) : List Int := (List.range m.Young.length).map (fun i : Nat => 2 * (i : Int) + 1) ++ (List.range m.Old.length).map (fun i : Nat => 2 * (i : Int) + 2)
theorem atM_y (m : DMemory) (i : Nat) (h : i < m.Young.length) : atM m (2 * (i : Int) + 1) = m.Young[i] := by
 unfold atM cellAt
 rw [if_neg (by omega), if_pos (by omega), show ((2 * (i : Int) + 1 - 1) / 2).toNat = i by omega, List.getElem?_eq_getElem h]; rfl
theorem atM_o (m : DMemory) (i : Nat) (h : i < m.Old.length) : atM m (2 * (i : Int) + 2) = m.Old[i] := by
 unfold atM cellAt
 rw [if_neg (by omega), if_neg (by omega), show ((2 * (i : Int) + 2 - 2) / 2).toNat = i by omega, List.getElem?_eq_getElem h]; rfl
theorem hasM_y (m : DMemory) (i : Nat) : hasM m (2 * (i : Int) + 1) = decide (i < m.Young.length) := by
 unfold hasM cellAt
 rw [if_neg (by omega), if_pos (by omega), show ((2 * (i : Int) + 1 - 1) / 2).toNat = i by omega]
 by_cases h : i < m.Young.length
 ·rw [List.getElem?_eq_getElem h, decide_eq_true h]; rfl
 ·rw [List.getElem?_eq_none (by omega), decide_eq_false h]; rfl
theorem hasM_o (m : DMemory) (i : Nat) : hasM m (2 * (i : Int) + 2) = decide (i < m.Old.length) := by
 unfold hasM cellAt
 rw [if_neg (by omega), if_neg (by omega), show ((2 * (i : Int) + 2 - 2) / 2).toNat = i by omega]
 by_cases h : i < m.Old.length
 ·rw [List.getElem?_eq_getElem h, decide_eq_true h]; rfl
 ·rw [List.getElem?_eq_none (by omega), decide_eq_false h]; rfl
theorem hasM_form {m : DMemory} {a : Int} (h : hasM m a = true) : (∃ i : Nat, i < m.Young.length ∧ a = 2 * (i : Int) + 1) ∨ ∃ i : Nat, i < m.Old.length ∧ a = 2 * (i : Int) + 2 := by
 rcases addr_cases m a with ⟨h1, h2⟩ | ⟨k, h1, -⟩ | ⟨k, h1, -⟩
 ·unfold hasM at h; rw [h2] at h; cases h
 ·subst h1; rw [hasM_y] at h; exact .inl ⟨k, of_decide_eq_true h, rfl⟩
 ·subst h1; rw [hasM_o] at h; exact .inr ⟨k, of_decide_eq_true h, rfl⟩
end Go.Proofs.YtmbaennilhdieaaGreat
/- Plain: the forwarding addresses of a major collection. -/
namespace Go.Proofs.YtmbaennilhdieaaGreat
open Go.RowKit
def exP : DMemory := ⟨[⟨11, 0, 0, 0, [], [⟨7, 2, ⟨#[]⟩⟩]⟩, ⟨11, 0, 0, 0, [], []⟩], [⟨11, 0, 0, 0, [], []⟩, ⟨11, 0, 0, 0, [], []⟩]⟩
def exF : DMemory := ⟨[], [⟨10, 0, 0, 0, [⟨1, 0, ⟨#[]⟩⟩], [⟨7, 4, ⟨#[]⟩⟩, ⟨7, 6, ⟨#[]⟩⟩, ⟨7, 8, ⟨#[]⟩⟩, ⟨0, 0, ⟨#[]⟩⟩, ⟨3, 7, ⟨#[]⟩⟩]⟩, ⟨11, 0, 0, 0, [], []⟩, ⟨11, 0, 0, 0, [], []⟩, ⟨11, 0, 0, 0, [], []⟩]⟩
theorem tmod_pos {a : Int} (h : 0 < a) : a.tmod 2 = 0 ∨ a.tmod 2 = 1 := by
 rw [tmod2 (by omega)]; omega
theorem newOrd_mem {live : List Int} (hp : ∀ a ∈ live, 0 < a) (a : Int) : a ∈ newOrd live ↔ a ∈ live := by
 unfold newOrd evenB oddB
 rw [List.mem_append, List.mem_filter, List.mem_filter, decide_eq_true_eq, decide_eq_true_eq]
 constructor
 ·rintro (h | h) <;> exact h.1
 ·intro h
  rcases tmod_pos (hp a h) with h2 | h2
  ·exact .inl ⟨h, h2⟩
  ·exact .inr ⟨h, h2⟩
theorem newOrd_len : ∀ {live : List Int}, (∀ a ∈ live, 0 < a) → (newOrd live).length = live.length
 | [], _ => rfl
 | a :: l, hp => by
  have ih := newOrd_len (live := l) fun b hb => hp b (by simp [hb])
  unfold newOrd at ih ⊢
  rw [List.length_append] at ih ⊢
  rcases tmod_pos (hp a (by simp)) with h | h
  ·have e1 : evenB a = true := decide_eq_true h
   have e2 : oddB a = false := decide_eq_false (by omega)
   simp only [List.filter_cons, e1, e2, if_true, Bool.false_eq_true, if_false, List.length_cons]; omega
  ·have e1 : evenB a = false := decide_eq_false (by omega)
   have e2 : oddB a = true := decide_eq_true h
   simp only [List.filter_cons, e1, e2, if_true, Bool.false_eq_true, if_false, List.length_cons]; omega
theorem newOrd_pw {live : List Int} (h : live.Pairwise (· < ·)) : (newOrd live).Pairwise fun a b => ¬ (a.tmod 2 = 1 ∧ b.tmod 2 = 0) ∧ (a.tmod 2 = b.tmod 2 → a < b) := by
 have hev : ∀ a ∈ live.filter evenB, a.tmod 2 = 0 := fun a ha => of_decide_eq_true (List.mem_filter.1 ha).2
 have hod : ∀ a ∈ live.filter oddB, a.tmod 2 = 1 := fun a ha => of_decide_eq_true (List.mem_filter.1 ha).2
 unfold newOrd
 refine List.pairwise_append.2 ⟨(h.filter _).imp_of_mem fun {a b} ha hb hlt => ⟨fun hh => ?_, fun _ => hlt⟩, (h.filter _).imp_of_mem fun {a b} ha hb hlt => ⟨fun hh => ?_, fun _ => hlt⟩, fun a ha b hb => ⟨fun hh => ?_, fun hh => ?_⟩⟩
 ·have := hev a ha; omega
 ·have := hod b hb; omega
 ·have := hev a ha; omega
 ·have := hev a ha; have := hod b hb; omega
end Go.Proofs.YtmbaennilhdieaaGreat
/- Plain: the program's major collection is the function. -/
namespace Go.Proofs.YtmbaennilhdieaaGreat
open Go.RowKit
theorem all_mem {α : Type} {p : α → Bool} {l : List α} (h : l.all p = true) {x : α} (hx : x ∈ l) : p x = true := List.all_eq_true.1 h x hx
structure Live (N : Nat) (m : DMemory) (roots : List DValue) (live f : List Int) : Prop where
 ord : ∃ b all, IsOrder (grM N m) (addrL roots) b all ∧ live = sortL all ∧ f = newOrd live
 prog : reach_Live_O N m roots = some live
 ref : r19_Live_O N m roots = some live
 mem : ∀ a, a ∈ f ↔ a ∈ live
 len : f.length = live.length
 small : live.length ≤ 1200
 nd : f.Nodup
 asc : live.Pairwise (· < ·)
 has : ∀ a ∈ live, hasM m a = true
theorem newOrd_nd {live : List Int} (h : live.Pairwise (· < ·)) : (newOrd live).Nodup := by
 rw [List.nodup_iff_pairwise_ne]
 refine (newOrd_pw h).imp fun {a b} hab e => ?_
 have := hab.2 (by rw [e])
 omega
theorem live_ok (N : Nat) (hN : 5000 < N) {m : DMemory} {roots : List DValue} (hs : Small m roots) (hw : W64 m) (hr : ∀ v ∈ roots, in64 v.N) : ∃ live f, Live N m roots live f := by
 obtain ⟨bg, all, ho, hlen, -, -, o0⟩ := order_fun N hN hs hw hr
 obtain ⟨b', all', ho', r0, -⟩ := rorder_fun N hN hs hw hr
 obtain ⟨-, e2⟩ := ho.det ho'
 subst e2
 have hll : (sortL all).length = all.length := sortL_len all
 have hmem := sortL_mem all
 have hasc := sortL_asc ho.nodup.2
 have hhas : ∀ a ∈ sortL all, hasM m a = true := fun a ha => ho.has.2 a ((hmem a).1 ha)
 have hpos : ∀ a ∈ sortL all, 0 < a := fun a ha => hasM_pos (hhas a ha)
 refine ⟨sortL all, newOrd (sortL all), ⟨⟨_, all, ho, rfl, rfl⟩, live_of o0 (by omega) rfl, ?_, newOrd_mem hpos, newOrd_len hpos, by omega, newOrd_nd hasc, hasc, hhas⟩⟩
 unfold r19_Live_O
 rw [r0, bs, rising_fun N hN all (by omega) ho.nodup.2, bs]
def collR (N : Nat) (m : DMemory) (roots : List DValue) (live f : List Int) : DMemory × List DValue × List DValue × Int :=
 bif decide (checkM N m roots = 0) then ((collS N m roots live f).next, (collS N m roots live f).now, (collS N m roots live f).gone, 0) else (⟨[], []⟩, [], [], checkM N m roots)
end Go.Proofs.YtmbaennilhdieaaGreat
/- Plain: the cells that a major collection leaves, and the references in them. -/
namespace Go.Proofs.YtmbaennilhdieaaGreat
open Go.RowKit
theorem pick_in {F : Nat → DValue → Bool} : ∀ {i : Nat} {l : List DValue} {j : Nat} {v : DValue}, l[j]? = some v → F (i + j) v = true → v.N ∈ pick F i l
 | i, w :: l, 0, v, h, hF => by
  simp only [List.getElem?_cons_zero, Option.some.injEq] at h
  subst h
  rw [pick_cons]
  rw [Nat.add_zero] at hF
  rw [hF]; simp
 | i, w :: l, j + 1, v, h, hF => by
  simp only [List.getElem?_cons_succ] at h
  rw [pick_cons]
  exact List.mem_append_right _ (pick_in (i := i + 1) h (by rw [show i + 1 + j = i + (j + 1) by omega]; exact hF))
 | i, [], j, v, h, _ => by simp at h
def AddrIn (f : List Int) (l : List DValue) : Prop := ∀ v ∈ l, hasB v = true → v.N ∈ f
theorem slots_in {f : List Int} {c : DCell} (h : ∀ x ∈ leadsL c, x ∈ f) : AddrIn f c.Slots := fun v hv hb => by
 obtain ⟨j, hj, e⟩ := List.getElem_of_mem hv
 refine h _ (List.mem_append_left _ (pick_in (j := j) (by rw [List.getElem?_eq_getElem hj, e]) hb))
theorem more_in {f : List Int} {c : DCell} (h : ∀ x ∈ leadsL c, x ∈ f) {j : Nat} {v : DValue} (hj : c.More[j]? = some v) (hw : weakB c.Kind j = false) (hb : hasB v = true) : v.N ∈ f :=
 h _ (List.mem_append_right _ (pick_in (j := j) hj (by rw [Nat.zero_add, hw, hb]; rfl)))
end Go.Proofs.YtmbaennilhdieaaGreat
/- Plain: a cell before and after a major collection. -/
namespace Go.Proofs.YtmbaennilhdieaaGreat
open Go.RowKit
structure CellOk (N : Nat) (lv f : List Int) (c : DCell) : Prop where
 big : 2000 < N
 right : rightB c = true
 slots : c.Slots.length ≤ 600
 more : c.More.length ≤ 600
 leads : ∀ x ∈ leadsL c, x ∈ f
 opens : ∀ x ∈ opensL N c lv, x ∈ f
 mem : ∀ x, x ∈ lv ↔ x ∈ f
section
variable {N : Nat} {ρ : Int → Int} {lv f : List Int} {c : DCell}
end
end Go.Proofs.YtmbaennilhdieaaGreat
/- Plain: what is read is of a bounded size. -/
namespace Go.Proofs.YtmbaennilhdieaaGreat
open Go.RowKit
theorem reach_le : reachBytes ≤ 140737488355328 := by decide
theorem read_mem (m : DMemory) (roots : List DValue) (hm : wfwDMemory m) (hr : WfL (fun z => wfwDValue z) roots) : Bnd 140737488355328 m roots ∧ W64 m ∧ ∀ v ∈ roots, in64 v.N := by
 have hb := reach_le
 obtain ⟨⟨y1, y2⟩, o1, o2⟩ := hm
 have hc : ∀ c ∈ m.Young ++ m.Old, wfwDCell c := fun c hc => (List.mem_append.1 hc).elim (y2 c) (o2 c)
 refine ⟨⟨Nat.le_trans y1 hb, Nat.le_trans o1 hb, Nat.le_trans hr.1 hb, fun c h => ?_⟩, fun c h v hv => ?_, fun v hv => (hr.2 v hv).2.1⟩
 ·obtain ⟨-, -, -, -, s, t⟩ := hc c h
  exact ⟨Nat.le_trans s.1 hb, Nat.le_trans t.1 hb⟩
 ·obtain ⟨-, -, -, -, s, t⟩ := hc c h
  rcases List.mem_append.1 hv with hv | hv
  ·exact (s.2 v hv).2.1
  ·exact (t.2 v hv).2.1
end Go.Proofs.YtmbaennilhdieaaGreat
/- Plain: ReachAlike. -/
namespace Go.Proofs.YtmbaennilhdieaaGreat
open Go.RowKit
end Go.Proofs.YtmbaennilhdieaaGreat
/- Plain: the memory that a major collection leaves; it is isomorphic to what was reachable. -/
namespace Go.Proofs.YtmbaennilhdieaaGreat
open Go.RowKit
theorem addr_in {c : DCell} {v : DValue} (hv : v ∈ c.Slots ++ c.More) (hb : hasB v = true) : v.N ∈ addrC c := by
 unfold addrC
 rcases List.mem_append.1 hv with hv | hv
 ·exact List.mem_append_left _ (slots_in (f := leadsL c) (fun x hx => hx) v hv hb)
 ·obtain ⟨j, hj, e⟩ := List.getElem_of_mem hv
  cases hw : weakB c.Kind j with
  | false => exact List.mem_append_left _ (more_in (f := leadsL c) (fun x hx => hx) (by rw [List.getElem?_eq_getElem hj, e]) hw hb)
  | true => exact List.mem_append_right _ (pick_in (j := j) (by rw [List.getElem?_eq_getElem hj, e]) (by rw [Nat.zero_add, hw, hb]; rfl))
theorem opens_has {p : Int → Bool} {x : Int} : ∀ {l : List DValue}, x ∈ opens p l → ∃ v ∈ l, hasB v = true ∧ v.N = x
 | [], h => by simp [opens] at h
 | [_], h => by simp [opens] at h
 | k :: v :: l, h => by
  rw [opens_cons] at h
  rcases List.mem_append.1 h with h | h
  ·cases hv : hasB v && p k.N with
   | false => rw [hv] at h; cases h
   | true =>
    rw [hv] at h
    rw [Bool.and_eq_true] at hv
    exact ⟨v, by simp, hv.1, (List.mem_singleton.1 h).symm⟩
  ·obtain ⟨w, h1, h2⟩ := opens_has h
   exact ⟨w, by simp [h1], h2⟩
structure CollCtx (N : Nat) (m : DMemory) (roots : List DValue) (live f : List Int) : Prop where
 big : 5000 < N
 small : Small m roots
 tot : Wtd m roots
 w64 : W64 m
 r64 : ∀ v ∈ roots, in64 v.N
 lv : Live N m roots live f
 right : ∀ c ∈ m.Young ++ m.Old, rightB c = true
 addr : ∀ c ∈ m.Young ++ m.Old, ∀ x ∈ addrC c, hasM m x = true
 roots : ∀ x ∈ addrL roots, hasM m x = true
section
variable {N : Nat} {m : DMemory} {roots : List DValue} {live f : List Int} (h : CollCtx N m roots live f)
include h
end
def nextM (N : Nat) (m : DMemory) (live f : List Int) : DMemory := ⟨[], f.map fun a => movC (rho f) f (clC N live (atM m a))⟩
def rowG (N : Nat) (m : DMemory) (live f : List Int) (a : Int) : DCell := movC (rho f) f (clC N live (atM m a))
section
variable {N : Nat} {m : DMemory} {roots : List DValue} {live f : List Int} (h : CollCtx N m roots live f)
include h
end
section
variable {N : Nat} {m : DMemory} {roots : List DValue} {live f : List Int} (h : CollCtx N m roots live f)
include h
end
end Go.Proofs.YtmbaennilhdieaaGreat
/- Plain: a second major collection finds everything reachable and changes nothing. -/
namespace Go.Proofs.YtmbaennilhdieaaGreat
open Go.RowKit
def evens (n : Nat) : List Int := (List.range n).map fun i : Nat => 2 * (i : Int) + 2
end Go.Proofs.YtmbaennilhdieaaGreat
/- Plain: the traversal of the young cells, as a relation. No program in sight. -/
namespace Go.Proofs.YtmbaennilhdieaaGreat
open Go.RowKit
def passF (g : Gr) (live : List Int) : List Int → List Int → List Int
 | row, [] => row
 | row, a :: avs => passF g live (layL g.has row (g.opens live a)) avs
inductive MOrd (g : Gr) (olds kept : List Int) : List Int → List Int → Prop
 | done {row : List Int} : passF g (olds ++ row) row (kept ++ row) = row → MOrd g olds kept row row
 | step {row r1 r : List Int} : passF g (olds ++ row) row (kept ++ row) ≠ row → Thr g (passF g (olds ++ row) row (kept ++ row)) row.length r1 → MOrd g olds kept r1 r → MOrd g olds kept row r
structure IsMinor (g : Gr) (olds kept start b l : List Int) : Prop where
 strong : Thr g (layL g.has [] start) 0 b
 all : MOrd g olds kept b l
theorem passF_app (g : Gr) (live : List Int) : ∀ (row avs : List Int), ∃ t, passF g live row avs = row ++ t
 | row, [] => ⟨[], by simp [passF]⟩
 | row, a :: avs => by
  obtain ⟨t, h1, -⟩ := layL_app g.has row (g.opens live a)
  obtain ⟨t2, h2⟩ := passF_app g live (layL g.has row (g.opens live a)) avs
  exact ⟨t ++ t2, by unfold passF; rw [h2, h1, List.append_assoc]⟩
theorem passF_two (g : Gr) (live : List Int) : ∀ (row avs bs : List Int), passF g live row (avs ++ bs) = passF g live (passF g live row avs) bs
 | _, [], _ => rfl
 | row, a :: avs, bs => by
  show passF g live _ (avs ++ bs) = _
  rw [passF_two g live _ avs bs]; rfl
theorem passF_nodup {g : Gr} {live : List Int} : ∀ {row : List Int} (avs : List Int), row.Nodup → (passF g live row avs).Nodup
 | _, [], h => h
 | _, _ :: avs, h => passF_nodup avs (layL_nodup _ h)
theorem passF_in {g : Gr} {live : List Int} {S : Int → Prop} : ∀ {row avs : List Int}, (∀ x ∈ row, S x) → (∀ a ∈ avs, ∀ x ∈ g.opens live a, g.has x = true → S x) → ∀ x ∈ passF g live row avs, S x
 | _, [], h, _ => h
 | row, a :: avs, h, h2 => passF_in (row := layL g.has row (g.opens live a)) (layL_in h (h2 a (by simp))) fun b hb => h2 b (by simp [hb])
theorem passF_fix {g : Gr} {live : List Int} : ∀ {row avs : List Int}, passF g live row avs = row → ∀ a ∈ avs, ∀ x ∈ g.opens live a, g.has x = true → x ∈ row
 | row, b :: avs, h, a, ha, x, hx, hh => by
  have h1 : layL g.has row (g.opens live b) = row := by
   obtain ⟨t, e1, -⟩ := layL_app g.has row (g.opens live b)
   obtain ⟨t2, e2⟩ := passF_app g live (layL g.has row (g.opens live b)) avs
   have h3 : row ++ t ++ t2 = row := by rw [← e1, ← e2]; exact h
   have h4 := congrArg List.length h3
   simp only [List.length_append] at h4
   have h5 : t = [] := List.eq_nil_of_length_eq_zero (by omega)
   rw [e1, h5, List.append_nil]
  rcases List.mem_cons.1 ha with e | ha
  ·subst e; have := layL_mem row _ hx hh; rwa [h1] at this
  ·refine passF_fix (avs := avs) ?_ a ha x hx hh
   unfold passF at h; rw [h1] at h; exact h
theorem MOrd.app {g : Gr} {olds kept row r : List Int} (h : MOrd g olds kept row r) : ∃ t, r = row ++ t := by
 induction h with
 | done _ => exact ⟨[], by simp⟩
 | step _ h1 _ ih =>
  rename_i row r1 _ _ _
  obtain ⟨t, rfl⟩ := ih
  obtain ⟨t1, rfl⟩ := h1.app
  obtain ⟨t2, h2⟩ := passF_app g (olds ++ row) row (kept ++ row)
  exact ⟨t2 ++ t1 ++ t, by rw [h2]; simp [List.append_assoc]⟩
theorem MOrd.nodup {g : Gr} {olds kept row r : List Int} (h : MOrd g olds kept row r) (hn : row.Nodup) : r.Nodup := by
 induction h with
 | done _ => exact hn
 | step _ h1 _ ih => exact ih (h1.nodup (passF_nodup _ hn))
theorem MOrd.closed {g : Gr} {olds kept row r : List Int} (h : MOrd g olds kept row r) (hc : CloG g row row.length) : CloG g r r.length ∧ ∀ a ∈ kept ++ r, ∀ x ∈ g.opens (olds ++ r) a, g.has x = true → x ∈ r := by
 induction h with
 | done hp => exact ⟨hc, passF_fix hp⟩
 | step _ h1 _ ih =>
  rename_i row _ _ _ _
  obtain ⟨t, e⟩ := passF_app g (olds ++ row) row (kept ++ row)
  refine ih (h1.clo (by rw [e, List.length_append]; omega) ?_)
  rw [e]; exact hc.app (Nat.le_refl _)
theorem IsMinor.nodup {g : Gr} {olds kept start b l : List Int} (h : IsMinor g olds kept start b l) : l.Nodup := h.all.nodup (h.strong.nodup (layL_nodup _ List.nodup_nil))
theorem IsMinor.start {g : Gr} {olds kept start b l : List Int} (h : IsMinor g olds kept start b l) {x : Int} (hx : x ∈ start) (hh : g.has x = true) : x ∈ l := by
 obtain ⟨t, e⟩ := h.strong.app
 obtain ⟨t2, e2⟩ := h.all.app
 rw [e2, e]
 exact List.mem_append_left _ (List.mem_append_left _ (layL_mem _ _ hx hh))
theorem IsMinor.closed {g : Gr} {olds kept start b l : List Int} (h : IsMinor g olds kept start b l) : (∀ a ∈ l, ∀ x ∈ g.leads a, g.has x = true → x ∈ l) ∧ ∀ a ∈ kept ++ l, ∀ x ∈ g.opens (olds ++ l) a, g.has x = true → x ∈ l := by
 obtain ⟨h1, h2⟩ := h.all.closed (h.strong.clo (Nat.zero_le _) fun i _ _ hi => absurd hi (by omega))
 refine ⟨fun a ha x hx hh => ?_, h2⟩
 obtain ⟨i, hi, e⟩ := List.getElem_of_mem ha
 exact h1 i a x hi (by rw [List.getElem?_eq_getElem hi, e]) hx hh
theorem IsMinor.in_ {g : Gr} {olds kept start b l : List Int} {S : Int → Prop} (h : IsMinor g olds kept start b l) (hs : ∀ x ∈ start, g.has x = true → S x) (hl : ∀ a, S a → ∀ x ∈ g.leads a, g.has x = true → S x) (ho : ∀ live a, (∀ y ∈ live, y ∈ olds ∨ S y) → (a ∈ kept ∨ S a) → ∀ x ∈ g.opens live a, g.has x = true → S x) : ∀ x ∈ l, S x := by
 have thr : ∀ {row r : List Int} {k : Nat}, Thr g row k r → (∀ x ∈ row, S x) → ∀ x ∈ r, S x := fun ht => by
  induction ht with
  | done _ => exact fun hr => hr
  | step ha _ ih => exact fun hr => ih (layL_in hr (hl _ (hr _ (List.mem_of_getElem? ha))))
 have key : ∀ {row r : List Int}, MOrd g olds kept row r → (∀ x ∈ row, S x) → ∀ x ∈ r, S x := fun hm => by
  induction hm with
  | done _ => exact fun hr => hr
  | step _ h1 _ ih =>
   exact fun hr => ih (thr h1 (passF_in hr fun a ha x hx hh => ho _ a (fun y hy => (List.mem_append.1 hy).elim .inl fun hy => .inr (hr y hy)) ((List.mem_append.1 ha).elim .inl fun ha => .inr (hr a ha)) x hx hh))
 exact key h.all (thr h.strong (layL_in (fun _ h => by cases h) hs))
end Go.Proofs.YtmbaennilhdieaaGreat
/- Plain: the program's traversal of young cells is the one of the relation. -/
namespace Go.Proofs.YtmbaennilhdieaaGreat
open Go.RowKit
def yB (a : Int) : Bool := decide (0 < a) && decide (a.tmod 2 = 1)
def grY (N : Nat) (m : DMemory) : Gr := ⟨yB, fun a => leadsL (atM m a), fun live a => opensL N (atM m a) live⟩
theorem young_spec (N : Nat) (a : Int) : minor_young_O N a = some (yB a) := by
 unfold minor_young_O yB
 cases decide (0 < a) <;> cases decide (a.tmod 2 = 1) <;> rfl
theorem yB_odd (k : Nat) : yB (2 * (k : Int) + 1) = true := by
 unfold yB
 rw [tmod2 (by omega), decide_eq_true (by omega), decide_eq_true (by omega)]; rfl
theorem yB_even (k : Nat) : yB (2 * (k : Int) + 2) = false := by
 unfold yB
 rw [tmod2 (by omega), decide_eq_false (p := (2 * (k : Int) + 2) % 2 = 1) (by omega), Bool.and_false]
structure Mt (m : DMemory) (met : List Int) (seen : List (Int × Bool)) : Prop where
 nd : met.Nodup
 yng : ∀ x ∈ met, yB x = true
 has : ∀ x ∈ met, hasM m x = true
 mem : ∀ x, (lk seen x).getD false = decide (x ∈ met)
theorem Mt.len {m : DMemory} {roots : List DValue} (hs : Small m roots) {met : List Int} {seen : List (Int × Bool)} (h : Mt m met seen) : met.length ≤ 1200 := nodup_le 1200 h.nd fun x hx => ⟨by have := hasM_pos (h.has x hx); omega, by have := hasM_le hs (h.has x hx); omega⟩
theorem Mt.nil (m : DMemory) : Mt m [] [] := ⟨List.nodup_nil, by simp, by simp, fun x => by simp; rfl⟩
theorem meet_spec (N : Nat) {m : DMemory} {roots : List DValue} (hs : Small m roots) (kp : List Int) {met : List Int} {seen : List (Int × Bool)} (nx : Int) (h : Mt m met seen) (a : Int) (ha : yB a = true → hasM m a = true) : ∃ seen', minor_meeter_meet_O N ⟨m, kp, met, seen, nx⟩ a = some ⟨m, kp, layL yB met [a], seen', nx⟩ ∧ Mt m (layL yB met [a]) seen' := by
 have hlen := h.len hs
 unfold minor_meeter_meet_O
 rw [young_spec, bs]
 dsimp only
 rw [h.mem a]
 have hl : layL yB met [a] = bif yB a && !decide (a ∈ met) then met ++ [a] else met := rfl
 rw [hl]
 cases hy : yB a with
 | false => exact ⟨seen, rfl, h⟩
 | true =>
  by_cases hm : a ∈ met
  ·rw [decide_eq_true hm]; exact ⟨seen, rfl, h⟩
  ·rw [decide_eq_false hm]
   refine ⟨upL seen a true, ?_, ?_⟩
   ·simp only [ct, bs, nf]
    rw [rF (by simp; omega)]; rfl
   ·refine ⟨List.nodup_append.2 ⟨h.nd, by simp, fun x hx y hy e => by rw [List.mem_singleton] at hy; subst hy; subst e; exact hm hx⟩, fun x hx => ?_, fun x hx => ?_, fun x => ?_⟩
    ·rcases List.mem_append.1 hx with hx | hx
     ·exact h.yng x hx
     ·rw [List.mem_singleton] at hx; subst hx; exact hy
    ·rcases List.mem_append.1 hx with hx | hx
     ·exact h.has x hx
     ·rw [List.mem_singleton] at hx; subst hx; exact ha hy
    ·rw [lk_up]
     show _ = decide (x ∈ met ++ [a])
     by_cases e : a = x
     ·rw [if_pos e, decide_eq_true (by simp [e])]; rfl
     ·rw [if_neg e, h.mem x]
      exact dec_cast ⟨fun hx => List.mem_append_left _ hx, fun hx => (List.mem_append.1 hx).elim id fun hx => absurd (List.mem_singleton.1 hx).symm e⟩
theorem meet_loop {ρ : Type} (N : Nat) {m : DMemory} {roots : List DValue} (hs : Small m roots) (l : List Int) (hl : l.length < N) (hl2 : l.length ≤ 5000) (hh : ∀ x ∈ l, yB x = true → hasM m x = true) (L : Nat → Int → List DCell → List DCell → List Int → List Int → List (Int × Bool) → Int → Option ρ) (K : List DCell → List DCell → List Int → List Int → List (Int × Bool) → Int → Option ρ)
  (hrec : ∀ k i Y O kp met seen nx, L (k + 1) i Y O kp met seen nx = bif decide (i < (l.length : Int)) then ((getE l i).bind fun x => (minor_meeter_meet_O N (⟨(⟨Y, O⟩ : DMemory), kp, met, seen, nx⟩ : DMeeter) x).bind fun y => req (in64 (i + 1)) (L k (i + 1) y.m_.Young y.m_.Old y.kept_ y.met_ y.seen_ y.next_)) else K Y O kp met seen nx)
  (kp : List Int) {met : List Int} {seen : List (Int × Bool)} (nx : Int) (h : Mt m met seen) (R : ρ → Prop) (hk : ∀ seen', Mt m (layL yB met l) seen' → Sat (K m.Young m.Old kp (layL yB met l) seen' nx) R) : Sat (L N 0 m.Young m.Old kp met seen nx) R := by
 refine loop_inv (fun k i (s : List Int × List (Int × Bool)) => L k (i : Int) m.Young m.Old kp s.1 s.2 nx) l.length (fun i s => Mt m s.1 s.2 ∧ s.1 = layL yB met (l.take i)) R ?_ ?_ N 0 (met, seen) (by omega) (by omega) ⟨h, rfl⟩
 ·rintro k i ⟨mt, sn⟩ hi ⟨h1, h2⟩ go
  simp only at h1 h2
  show Sat (L (k + 1) (i : Int) m.Young m.Old kp mt sn nx) R
  obtain ⟨sn', e1, e2⟩ := meet_spec N hs kp nx h1 l[i] (hh _ (List.getElem_mem _))
  have e1' : minor_meeter_meet_O N ⟨⟨m.Young, m.Old⟩, kp, mt, sn, nx⟩ l[i] = some ⟨m, kp, layL yB mt [l[i]], sn', nx⟩ := e1
  rw [hrec, lt_t (by omega), ct, getE_n hi, bs, e1', bs, r64 (by omega) (by omega)]
  exact go (layL yB mt [l[i]], sn') ⟨e2, by show layL yB mt [l[i]] = _; rw [take_succ_get hi, layL_two, ← h2]⟩
 ·rintro k ⟨mt, sn⟩ ⟨h1, h2⟩
  simp only [List.take_length] at h1 h2
  show Sat (L (k + 1) _ m.Young m.Old kp mt sn nx) R
  rw [hrec, lt_f (by omega), cf]
  subst h2
  exact hk sn h1
theorem mcell_spec (N : Nat) {m : DMemory} {roots : List DValue} (hs : Small m roots) (kp met : List Int) (seen : List (Int × Bool)) (nx : Int) {a : Int} (ha : hasM m a = true) : minor_meeter_cell_O N ⟨m, kp, met, seen, nx⟩ a = some (atM m a) := by
 have hy := hs.young
 have ho := hs.old
 unfold minor_meeter_cell_O
 rw [young_spec, bs]
 rcases hasM_form ha with ⟨i, hi, rfl⟩ | ⟨i, hi, rfl⟩
 ·rw [yB_odd, ct, tdiv2 (by omega), show (2 * (i : Int) + 1) / 2 = i by omega, r64 (by omega) (by omega), atM_y m i hi, getE_n hi, bs]
 ·rw [yB_even, cf, tdiv2 (by omega), show (2 * (i : Int) + 2) / 2 = (i : Int) + 1 by omega, r64 (by omega) (by omega), r64 (by omega) (by omega), show (i : Int) + 1 - 1 = i by omega, atM_o m i hi, getE_n hi, bs]
def Whole (m : DMemory) : Prop := ∀ a, hasM m a = true → ∀ x ∈ addrC (atM m a), hasM m x = true
theorem Whole.leads {m : DMemory} (h : Whole m) {a : Int} (ha : hasM m a = true) : ∀ x ∈ leadsL (atM m a), hasM m x = true := fun x hx => h a ha x (List.mem_append_left _ hx)
theorem Whole.opens {m : DMemory} (h : Whole m) {N : Nat} {live : List Int} {a : Int} (ha : hasM m a = true) : ∀ x ∈ opensL N (atM m a) live, hasM m x = true := fun x hx => by
 unfold opensL at hx
 cases hw : isWM N (atM m a) with
 | false => rw [hw] at hx; cases hx
 | true =>
  rw [hw] at hx
  obtain ⟨v, hv, hb, rfl⟩ := opens_has hx
  exact h a ha _ (addr_in (List.mem_append_right _ hv) hb)
theorem mthrough_spec (N : Nat) (hN : 5000 < N) {m : DMemory} {roots : List DValue} (hs : Small m roots) (hw : Whole m) (kp : List Int) {met : List Int} {seen : List (Int × Bool)} (h : Mt m met seen) (k : Nat) (hk : k ≤ met.length) :
  Sat (minor_meeter_through_O N ⟨m, kp, met, seen, (k : Int)⟩) fun r => ∃ seen', r = ⟨m, kp, r.met_, seen', (r.met_.length : Int)⟩ ∧ Mt m r.met_ seen' ∧ Thr (grY N m) met k r.met_ := by
 unfold minor_meeter_through_O
 refine loop_dec (fun f (s : List Int × List (Int × Bool) × Nat) => minor_meeter_through_l7 N f m.Young m.Old kp s.1 s.2.1 (s.2.2 : Int)) (fun s => 1300 - s.2.2) (fun s => Mt m s.1 s.2.1 ∧ s.2.2 ≤ s.1.length ∧ ∀ r, Thr (grY N m) s.1 s.2.2 r → Thr (grY N m) met k r) _ ?_ N (met, seen, k) (by show 1300 - k < N; omega) ⟨h, hk, fun _ h => h⟩
 rintro f ⟨mt, sn, j⟩ ⟨h1, h3, h4⟩ go
 show Sat (minor_meeter_through_l7 N (f + 1) m.Young m.Old kp mt sn (j : Int)) _
 simp only at h1 h3 h4
 have hlen := h1.len hs
 rw [minor_meeter_through_l7_s]
 by_cases hj : j < mt.length
 ·have hh := h1.has _ (List.getElem_mem hj)
  have hsm := hs.at_ mt[j]
  have e1 : minor_meeter_cell_O N ⟨⟨m.Young, m.Old⟩, kp, mt, sn, (j : Int)⟩ mt[j] = some (atM m mt[j]) := mcell_spec N hs kp mt sn (j : Int) hh
  have hll := leadsL_len (atM m mt[j])
  rw [lt_t (by omega), ct, getE_n hj, bs, e1, bs, leads_prog N (by omega) _ (by omega) (by omega), bs]
  refine meet_loop N hs (leadsL (atM m mt[j])) (by omega) (by omega) (fun x hx _ => hw.leads hh x hx) (minor_meeter_through_l31 N (minor_meeter_through_l7 N f) (leadsL (atM m mt[j]))) (minor_meeter_through_j15 N (minor_meeter_through_l7 N f)) (fun _ _ _ _ _ _ _ _ => by rw [minor_meeter_through_l31_s]) kp (j : Int) h1 _ fun sn' h5 => ?_
  unfold minor_meeter_through_j15
  rw [r64 (by omega) (by omega)]
  have hge : mt.length ≤ (layL yB mt (leadsL (atM m mt[j]))).length := by
   obtain ⟨t, e, -⟩ := layL_app yB mt (leadsL (atM m mt[j]))
   rw [e, List.length_append]; omega
  exact go (layL yB mt (leadsL (atM m mt[j])), sn', j + 1) (by show 1300 - (j + 1) < 1300 - j; omega) ⟨h5, by show j + 1 ≤ (layL yB mt (leadsL (atM m mt[j]))).length; omega, fun r hr => h4 r (.step (List.getElem?_eq_getElem hj) hr)⟩
 ·have : j = mt.length := by omega
  subst this
  rw [lt_f (by omega), cf]
  exact sat_some ⟨sn, rfl, h1, h4 _ (.done (Nat.le_refl _))⟩
theorem mlive_spec (N : Nat) (hN : 5000 < N) {m : DMemory} {roots : List DValue} (hs : Small m roots) (kp : List Int) {met : List Int} {seen : List (Int × Bool)} (nx : Int) (h : Mt m met seen) : minor_meeter_live_O N ⟨m, kp, met, seen, nx⟩ = some (evens m.Old.length ++ met) := by
 apply Sat.eq
 have ho := hs.old
 have hlen := h.len hs
 unfold minor_meeter_live_O
 refine loop_inv (fun k i (s : List Int) => minor_meeter_live_l9 N ⟨m, kp, met, seen, nx⟩ k s (i : Int)) m.Old.length (fun i s => s = evens i) _ ?_ ?_ N 0 [] (by omega) (by omega) rfl
 ·rintro k i s hi rfl go
  show Sat (minor_meeter_live_l9 N ⟨m, kp, met, seen, nx⟩ (k + 1) (evens i) (i : Int)) _
  have hev : (evens i).length = i := by unfold evens; simp
  rw [minor_meeter_live_l9_s, lt_t (by show (i : Int) < (m.Old.length : Int); omega), ct, r64 (by omega) (by omega), r64 (by omega) (by omega), rF (by simp; omega), r64 (by omega) (by omega)]
  refine go _ ?_
  unfold evens
  rw [List.range_succ, List.map_append]; rfl
 ·rintro k s rfl
  show Sat (minor_meeter_live_l9 N ⟨m, kp, met, seen, nx⟩ (k + 1) _ _) _
  have hev : (evens m.Old.length).length = m.Old.length := by unfold evens; simp
  rw [minor_meeter_live_l9_s, lt_f (by show (m.Old.length : Int) ≤ (m.Old.length : Int); omega), cf]
  unfold minor_meeter_live_j7
  dsimp only
  rw [rF (by omega)]
  exact sat_some rfl
theorem concat_spec (N : Nat) (a b : List Int) (ha : a.length ≤ 100000) (hb : b.length ≤ 100000) : slices_Concat_O N a b = some (a ++ b) := by
 unfold slices_Concat_O slices_Concat_j4 slices_Grow_n_O slices_Grow_n_j2 slices_Concat_j11
 rw [r64 (by omega) (by omega), lt_f (a := 0 + (a.length : Int)) (by omega), cf, r64 (by omega) (by omega), lt_f (a := 0 + (a.length : Int) + (b.length : Int)) (by omega), cf, r64 (by omega) (by omega), r64 (by omega) (by omega), cf]
 by_cases h : 0 < a.length + b.length
 ·rw [lt_t (by omega), ct, req_t ⟨by omega, by omega⟩, bs, rF (by simp; omega), rF (by simp; omega)]; rfl
 ·rw [lt_f (by omega), cf, bs, rF (by simp; omega), rF (by simp; omega)]; rfl
theorem mopen_spec (N : Nat) (hN : 5000 < N) {m : DMemory} {roots : List DValue} (hs : Small m roots) (hw : Whole m) (kp : List Int) (hk : ∀ x ∈ kp, hasM m x = true) (hkl : kp.length ≤ 1200) {met : List Int} {seen : List (Int × Bool)} (nx : Int) (h : Mt m met seen) :
  Sat (minor_meeter_open_O N ⟨m, kp, met, seen, nx⟩) fun r => ∃ seen', r = (decide ((met.length : Int) < (r.2.met_.length : Int)), ⟨m, kp, r.2.met_, seen', nx⟩) ∧ Mt m r.2.met_ seen' ∧ r.2.met_ = passF (grY N m) (evens m.Old.length ++ met) met (kp ++ met) := by
 have hlen := h.len hs
 have ho := hs.old
 have hev : (evens m.Old.length).length = m.Old.length := by unfold evens; simp
 unfold minor_meeter_open_O
 rw [mlive_spec N hN hs kp nx h, bs]
 dsimp only
 rw [concat_spec N kp met (by omega) (by omega), bs]
 have hL : (evens m.Old.length ++ met).length ≤ 5000 := by rw [List.length_append]; omega
 have hC : (kp ++ met).length ≤ 2400 := by rw [List.length_append]; omega
 generalize hlv : evens m.Old.length ++ met = live at *
 have hcm : ∀ x ∈ kp ++ met, hasM m x = true := fun x hx => (List.mem_append.1 hx).elim (hk x) (h.has x)
 generalize hcc : kp ++ met = cs at *
 refine loop_inv (fun k i (s : List Int × List (Int × Bool)) => minor_meeter_open_l21 N ⟨m, kp, met, seen, nx⟩ cs live k (i : Int) m.Young m.Old kp s.1 s.2 nx) cs.length (fun i s => Mt m s.1 s.2 ∧ s.1 = passF (grY N m) live met (cs.take i)) _ ?_ ?_ N 0 (met, seen) (by omega) (by omega) ⟨h, rfl⟩
 ·rintro k i ⟨mt, sn⟩ hi ⟨h1, h2⟩ go
  simp only at h1 h2
  show Sat (minor_meeter_open_l21 N ⟨m, kp, met, seen, nx⟩ cs live (k + 1) (i : Int) m.Young m.Old kp mt sn nx) _
  have hh := hcm _ (List.getElem_mem hi)
  have hsm := hs.at_ cs[i]
  have e1 : minor_meeter_cell_O N ⟨⟨m.Young, m.Old⟩, kp, mt, sn, nx⟩ cs[i] = some (atM m cs[i]) := mcell_spec N hs kp mt sn nx hh
  have hol := opensL_len N (atM m cs[i]) live
  rw [minor_meeter_open_l21_s, lt_t (by omega), ct, getE_n hi, bs, e1, bs, opens_prog N hN live (by omega) _ (by omega) (by omega), bs]
  refine meet_loop N hs (opensL N (atM m cs[i]) live) (by omega) (by omega) (fun x hx _ => hw.opens hh x hx) (minor_meeter_open_l43 N (minor_meeter_open_l21 N ⟨m, kp, met, seen, nx⟩ cs live k) ⟨m, kp, met, seen, nx⟩ cs (i : Int) (opensL N (atM m cs[i]) live) live) (minor_meeter_open_j30 N (minor_meeter_open_l21 N ⟨m, kp, met, seen, nx⟩ cs live k) ⟨m, kp, met, seen, nx⟩ cs (i : Int) live) (fun _ _ _ _ _ _ _ _ => by rw [minor_meeter_open_l43_s]) kp nx h1 _ fun sn' h5 => ?_
  unfold minor_meeter_open_j30
  rw [r64 (by omega) (by omega)]
  refine go (layL yB mt (opensL N (atM m cs[i]) live), sn') ⟨h5, ?_⟩
  show layL yB mt (opensL N (atM m cs[i]) live) = _
  rw [take_succ_get hi, passF_two, ← h2]; rfl
 ·rintro k ⟨mt, sn⟩ ⟨h1, h2⟩
  simp only [List.take_length] at h1 h2
  show Sat (minor_meeter_open_l21 N ⟨m, kp, met, seen, nx⟩ cs live (k + 1) _ m.Young m.Old kp mt sn nx) _
  rw [minor_meeter_open_l21_s, lt_f (by omega), cf]
  unfold minor_meeter_open_j9
  exact sat_some ⟨sn, rfl, h1, h2⟩
end Go.Proofs.YtmbaennilhdieaaGreat
/- Plain: all young cells that are reachable; when a minor collection may be made. -/
namespace Go.Proofs.YtmbaennilhdieaaGreat
open Go.RowKit
def startM (m : DMemory) (roots : List DValue) (kept : List Int) : List Int := addrL roots ++ kept.flatMap fun a => leadsL (atM m a)
theorem maddr_spec (N : Nat) (v : DValue) : minor_address_O N v = some (v.N, hasB v) := by
 unfold minor_address_O
 rw [kind_has, bs]
theorem mall_spec (N : Nat) (hN : 5000 < N) {m : DMemory} {roots : List DValue} (hs : Small m roots) (hw : Whole m) (hr : ∀ x ∈ addrL roots, hasM m x = true) (kept : List Int) (hk : ∀ x ∈ kept, hasM m x = true) (hkl : kept.length ≤ 1200) :
  Sat (minor_all_O N m roots kept) fun r => ∃ seen nx b, r = ⟨m, kept, r.met_, seen, nx⟩ ∧ Mt m r.met_ seen ∧ IsMinor (grY N m) (evens m.Old.length) kept (startM m roots kept) b r.met_ := by
 have hrl := hs.roots
 -- the passes
 have passes : ∀ (b : List Int) (seen : List (Int × Bool)), Mt m b seen → Thr (grY N m) (layL yB [] (startM m roots kept)) 0 b → Sat (minor_all_l104 N N m.Young m.Old kept b seen (b.length : Int)) fun r => ∃ seen nx b, r = ⟨m, kept, r.met_, seen, nx⟩ ∧ Mt m r.met_ seen ∧ IsMinor (grY N m) (evens m.Old.length) kept (startM m roots kept) b r.met_ := by
  intro b seen h hb
  have h0 := h.len hs
  refine loop_dec (fun f (s : List Int × List (Int × Bool)) => minor_all_l104 N f m.Young m.Old kept s.1 s.2 (s.1.length : Int)) (fun s => 1300 - s.1.length) (fun s => Mt m s.1 s.2 ∧ ∀ r, MOrd (grY N m) (evens m.Old.length) kept s.1 r → MOrd (grY N m) (evens m.Old.length) kept b r) _ ?_ N (b, seen) (by show 1300 - b.length < N; omega) ⟨h, fun _ h => h⟩
  rintro f ⟨mt, sn⟩ ⟨h1, h2⟩ go
  simp only at h1 h2
  show Sat (minor_all_l104 N (f + 1) m.Young m.Old kept mt sn (mt.length : Int)) _
  have hlen := h1.len hs
  obtain ⟨⟨p, x⟩, e0, sn', e1, h3, h4⟩ := mopen_spec N hN hs hw kept hk hkl (mt.length : Int) h1
  simp only at e1 h3 h4
  obtain ⟨e1, e2⟩ := Prod.mk.inj e1
  obtain ⟨t, ht⟩ := passF_app (grY N m) (evens m.Old.length ++ mt) mt (kept ++ mt)
  have hlen3 := h3.len hs
  have e0' : minor_meeter_open_O N ⟨⟨m.Young, m.Old⟩, kept, mt, sn, (mt.length : Int)⟩ = some (p, x) := e0
  rw [minor_all_l104_s, e0', bs]
  dsimp only
  rw [e1]
  generalize hm' : x.met_ = mt' at *
  subst e2
  refine sat_dec (fun hlt => ?_) fun hge => ?_
  ·refine Sat.bind (mthrough_spec N hN hs hw kept h3 mt.length (by rw [h4, ht, List.length_append]; omega)) ?_
   rintro r ⟨sn3, e3, h5, h6⟩
   have hlen5 := h5.len hs
   rw [e3]
   dsimp only
   refine go (r.met_, sn3) ?_ ⟨h5, fun r' hr' => h2 r' (.step ?_ (by rw [← h4]; exact h6) hr')⟩
   ·obtain ⟨t3, e4⟩ := h6.app
    show 1300 - r.met_.length < 1300 - mt.length
    have : mt'.length ≤ r.met_.length := by rw [e4, List.length_append]; omega
    omega
   ·rw [← h4]; intro e; rw [e] at hlt; omega
  ·have e : mt' = mt := by
    rw [ht] at h4
    have h0 : t = [] := List.eq_nil_of_length_eq_zero (by rw [h4, List.length_append] at hge; omega)
    rw [h4, h0, List.append_nil]
   subst e
   unfold minor_all_j97
   exact sat_some ⟨sn', (mt'.length : Int), b, rfl, h3, ⟨hb, h2 _ (.done h4.symm)⟩⟩
 -- the kept cells
 have keptL : ∀ (row : List Int) (seen : List (Int × Bool)), Mt m row seen → row = layL yB [] (addrL roots) → Sat (minor_all_l51 N kept N 0 m.Young m.Old kept row seen 0) fun r => ∃ seen nx b, r = ⟨m, kept, r.met_, seen, nx⟩ ∧ Mt m r.met_ seen ∧ IsMinor (grY N m) (evens m.Old.length) kept (startM m roots kept) b r.met_ := by
  intro row seen h hrow
  refine loop_inv (fun k i (s : List Int × List (Int × Bool)) => minor_all_l51 N kept k (i : Int) m.Young m.Old kept s.1 s.2 0) kept.length (fun i s => Mt m s.1 s.2 ∧ s.1 = layL yB [] (addrL roots ++ (kept.take i).flatMap fun a => leadsL (atM m a))) _ ?_ ?_ N 0 (row, seen) (by omega) (by omega) ⟨h, by simpa using hrow⟩
  ·rintro k i ⟨mt, sn⟩ hi ⟨h1, h2⟩ go
   simp only at h1 h2
   show Sat (minor_all_l51 N kept (k + 1) (i : Int) m.Young m.Old kept mt sn 0) _
   have hh := hk _ (List.getElem_mem hi)
   have hsm := hs.at_ kept[i]
   have e1 : minor_meeter_cell_O N ⟨⟨m.Young, m.Old⟩, kept, mt, sn, 0⟩ kept[i] = some (atM m kept[i]) := mcell_spec N hs kept mt sn 0 hh
   have hll := leadsL_len (atM m kept[i])
   rw [minor_all_l51_s, lt_t (by omega), ct, getE_n hi, bs, e1, bs, leads_prog N (by omega) _ (by omega) (by omega), bs]
   refine meet_loop N hs (leadsL (atM m kept[i])) (by omega) (by omega) (fun x hx _ => hw.leads hh x hx) (minor_all_l73 N (minor_all_l51 N kept k) kept (i : Int) (leadsL (atM m kept[i]))) (minor_all_j60 N (minor_all_l51 N kept k) kept (i : Int)) (fun _ _ _ _ _ _ _ _ => by rw [minor_all_l73_s]) kept 0 h1 _ fun sn' h5 => ?_
   unfold minor_all_j60
   rw [r64 (by omega) (by omega)]
   refine go (layL yB mt (leadsL (atM m kept[i])), sn') ⟨h5, ?_⟩
   show layL yB mt (leadsL (atM m kept[i])) = _
   rw [take_succ_get hi, List.flatMap_append, ← List.append_assoc, layL_two, ← h2]; simp
  ·rintro k ⟨mt, sn⟩ ⟨h1, h2⟩
   simp only [List.take_length] at h1 h2
   show Sat (minor_all_l51 N kept (k + 1) _ m.Young m.Old kept mt sn 0) _
   rw [minor_all_l51_s, lt_f (by omega), cf]
   unfold minor_all_j44
   refine Sat.bind (mthrough_spec N hN hs hw kept h1 0 (Nat.zero_le _)) ?_
   rintro r ⟨sn3, e3, h5, h6⟩
   rw [e3]
   dsimp only
   exact passes r.met_ sn3 h5 (by rw [h2] at h6; exact h6)
 -- the roots
 unfold minor_all_O
 refine loop_inv (fun k i (s : List Int × List (Int × Bool)) => minor_all_l15 N roots kept k (i : Int) m.Young m.Old kept s.1 s.2 0) roots.length (fun i s => Mt m s.1 s.2 ∧ s.1 = layL yB [] (addrL (roots.take i))) _ ?_ ?_ N 0 ([], []) (by omega) (by omega) ⟨Mt.nil m, rfl⟩
 ·rintro k i ⟨mt, sn⟩ hi ⟨h1, h2⟩ go
  simp only at h1 h2
  show Sat (minor_all_l15 N roots kept (k + 1) (i : Int) m.Young m.Old kept mt sn 0) _
  have hnext : layL yB [] (addrL (roots.take (i + 1))) = layL yB mt (addrL [roots[i]]) := by
   rw [take_succ_get hi, addrL_app, layL_two, ← h2]
  rw [minor_all_l15_s, lt_t (by omega), ct, getE_n hi, bs, maddr_spec, bs]
  dsimp only
  unfold minor_all_j26
  cases hb : hasB roots[i]
  ·rw [cf, r64 (by omega) (by omega)]
   refine go (mt, sn) ⟨h1, ?_⟩
   show mt = _
   rw [hnext]; simp [addrL, hb, layL]
  ·rw [ct]
   have hroot : hasM m roots[i].N = true := hr _ (addrL_mem.2 ⟨_, List.getElem_mem _, hb, rfl⟩)
   obtain ⟨sn', e1, e2⟩ := meet_spec N hs kept 0 h1 roots[i].N fun _ => hroot
   have e1' : minor_meeter_meet_O N ⟨⟨m.Young, m.Old⟩, kept, mt, sn, 0⟩ roots[i].N = _ := e1
   rw [e1', bs]
   dsimp only
   rw [r64 (by omega) (by omega)]
   refine go (layL yB mt [roots[i].N], sn') ⟨e2, ?_⟩
   show layL yB mt [roots[i].N] = _
   rw [hnext]; simp [addrL, hb]
 ·rintro k ⟨mt, sn⟩ ⟨h1, h2⟩
  simp only [List.take_length] at h1 h2
  show Sat (minor_all_l15 N roots kept (k + 1) _ m.Young m.Old kept mt sn 0) _
  rw [minor_all_l15_s, lt_f (by omega), cf]
  unfold minor_all_j8
  exact keptL mt sn h1 h2
def oldOk (m : DMemory) (kept : List Int) : Bool := (List.range m.Old.length).all fun i => !(addrC (atM m (2 * (i : Int) + 2))).any yB || decide ((2 * (i : Int) + 2) ∈ kept)
def keptOk (m : DMemory) (kept : List Int) : Bool := kept.all (fun a => !yB a && hasM m a) && decide (kept.Pairwise (· < ·))
def soundM (N : Nat) (m : DMemory) : Bool := (m.Young ++ m.Old).all (fineC N m)
def mayM (N : Nat) (m : DMemory) (roots : List DValue) (kept : List Int) : Bool := wholeB m (addrL roots) && soundM N m && keptOk m kept && oldOk m kept
theorem maddrs_spec (N : Nat) (hN : 2000 < N) (c : DCell) (hS : c.Slots.length ≤ 600) (hM : c.More.length ≤ 600) : minor_addresses_O N c = some (addrC c) := by
 have h1 := leadsL_len c
 have h2 := weaklyL_len c
 unfold minor_addresses_O
 rw [leads_prog N hN c (by omega) (by omega), bs, weakly_prog N hN c (by omega) (by omega), bs, rF (by omega)]; rfl
theorem any_int (N : Nat) (f : Int → Option Bool) (p : Int → Bool) (l : List Int) (hl : l.length < N) (hl2 : l.length ≤ 5000) (hf : ∀ x ∈ l, f x = some (p x)) : slices_ContainsFunc_O N l f = some (l.any p) := by
 have key : ∀ k i : Nat, l.length < k + i → i ≤ l.length → Sat (slices_IndexFunc_l3 N f l k (i : Int)) fun r => decide (0 ≤ r) = (l.drop i).any p := by
  intro k
  induction k with
  | zero => intro i h1 h2; omega
  | succ k ih =>
   intro i h1 h2
   rw [slices_IndexFunc_l3_s]
   by_cases hi : i < l.length
   ·have h3 := ih (i + 1) (by omega) hi
    rw [show (((i + 1 : Nat)) : Int) = (i : Int) + 1 by omega] at h3
    rw [lt_t (by omega), ct, getE_n hi, bs, List.drop_eq_getElem_cons hi, List.any_cons, hf _ (List.getElem_mem _), bs, r64 (by omega) (by omega)]
    cases p l[i]
    ·exact h3
    ·exact sat_some (by rw [decide_eq_true (by omega)]; rfl)
   ·rw [lt_f (by omega), cf, List.drop_eq_nil_of_le (by omega)]
    exact sat_some rfl
 obtain ⟨r, h1, h2⟩ := key N 0 (by omega) (by omega)
 have h1' : slices_IndexFunc_l3 N f l N 0 = some r := h1
 unfold slices_ContainsFunc_O slices_IndexFunc_O
 rw [h1', bs, h2]; rfl
theorem any_val (N : Nat) (f : DValue → Option Bool) (p : DValue → Bool) (l : List DValue) (hl : l.length < N) (hl2 : l.length ≤ 5000) (hf : ∀ x ∈ l, f x = some (p x)) : slices_ContainsFunc_Value_O N l f = some (l.any p) := by
 have key : ∀ k i : Nat, l.length < k + i → i ≤ l.length → Sat (slices_IndexFunc_Value_l3 N f l k (i : Int)) fun r => decide (0 ≤ r) = (l.drop i).any p := by
  intro k
  induction k with
  | zero => intro i h1 h2; omega
  | succ k ih =>
   intro i h1 h2
   rw [slices_IndexFunc_Value_l3_s]
   by_cases hi : i < l.length
   ·have h3 := ih (i + 1) (by omega) hi
    rw [show (((i + 1 : Nat)) : Int) = (i : Int) + 1 by omega] at h3
    rw [lt_t (by omega), ct, getE_n hi, bs, List.drop_eq_getElem_cons hi, List.any_cons, hf _ (List.getElem_mem _), bs, r64 (by omega) (by omega)]
    cases p l[i]
    ·exact h3
    ·exact sat_some (by rw [decide_eq_true (by omega)]; rfl)
   ·rw [lt_f (by omega), cf, List.drop_eq_nil_of_le (by omega)]
    exact sat_some rfl
 obtain ⟨r, h1, h2⟩ := key N 0 (by omega) (by omega)
 have h1' : slices_IndexFunc_Value_l3 N f l N 0 = some r := h1
 unfold slices_ContainsFunc_Value_O slices_IndexFunc_Value_O
 rw [h1', bs, h2]; rfl
theorem any_not {α : Type} (p : α → Bool) : ∀ l : List α, l.any (fun x => !p x) = !l.all p
 | [] => rfl
 | x :: l => by rw [List.any_cons, List.all_cons, any_not p l]; cases p x <;> rfl
theorem concat_cells (N : Nat) (a b : List DCell) (ha : a.length ≤ 100000) (hb : b.length ≤ 100000) : slices_Concat_Cell_O N a b = some (a ++ b) := by
 unfold slices_Concat_Cell_O slices_Concat_Cell_j4 slices_Grow_Cell_n_O slices_Grow_Cell_n_j2 slices_Concat_Cell_j11
 rw [r64 (by omega) (by omega), lt_f (a := 0 + (a.length : Int)) (by omega), cf, r64 (by omega) (by omega), lt_f (a := 0 + (a.length : Int) + (b.length : Int)) (by omega), cf, r64 (by omega) (by omega), r64 (by omega) (by omega), cf]
 by_cases h : 0 < a.length + b.length
 ·rw [lt_t (by omega), ct, req_t ⟨by omega, by omega⟩, bs, rF (by simp; omega), rF (by simp; omega)]; rfl
 ·rw [lt_f (by omega), cf, bs, rF (by simp; omega), rF (by simp; omega)]; rfl
theorem sound_spec (N : Nat) (hN : 5000 < N) {m : DMemory} {roots : List DValue} (hs : Small m roots) (hw : W64 m) : minor_sound_O N m = some (soundM N m) := by
 have h1 := hs.young; have h2 := hs.old
 unfold minor_sound_O soundM
 rw [concat_cells N _ _ (by omega) (by omega), bs]
 have hl : (m.Young ++ m.Old).length ≤ 1200 := by rw [List.length_append]; omega
 refine loop_all (fun k i => minor_sound_l8 N (m.Young ++ m.Old) m k i) (m.Young ++ m.Old) _ (fun k i h => ?_) (fun k => ?_) N (by omega)
 ·have hm : (m.Young ++ m.Old)[i] ∈ m.Young ++ m.Old := List.getElem_mem _
  have hc := hs.cells _ hm
  obtain ⟨⟨a1, a2⟩, a3, a4⟩ := weakly_ok hs hw hm
  rw [minor_sound_l8_s, lt_t (by omega), ct, getE_n h, bs]
  generalize (m.Young ++ m.Old)[i] = c at *
  obtain ⟨b, hb, -⟩ := right_tot N (by omega) c (by omega) (by omega)
  rw [right_eq N (by omega) _ (by omega) (by omega), hb, bs, maddrs_spec N (by omega) c hc.1 hc.2, bs, any_int N _ (fun x => !hasM m x) (addrC c) (by unfold addrC; rw [List.length_append]; omega) (by unfold addrC; rw [List.length_append]; omega) (fun x hx => by
   unfold minor_sound_c1_O
   rw [has_prog N m x ((List.mem_append.1 hx).elim (a2 x) (a4 x)), bs]), any_not]
  unfold fineC
  rw [hb, r64 (by omega) (by omega)]
  have e : (addrC c).all (hasM m) = (wholeB m (leadsL c) && wholeB m (weaklyL c)) := by unfold addrC wholeB; rw [List.all_append]
  rw [e]
  cases b <;> cases wholeB m (leadsL c) && wholeB m (weaklyL c) <;> rfl
 ·rw [minor_sound_l8_s, lt_f (by omega), cf]; rfl
theorem pair_iff (l : List Int) : decide (l.Pairwise (· < ·)) = (List.range l.length).all fun i => decide (i = 0) || decide (l.getD (i - 1) 0 < l.getD i 0) := by
 rw [Bool.eq_iff_iff, decide_eq_true_eq, List.all_eq_true]
 constructor
 ·intro h i hi
  rw [List.mem_range] at hi
  by_cases h0 : i = 0
  ·rw [decide_eq_true h0]; rfl
  ·have := List.pairwise_iff_getElem.1 h (i - 1) i (by omega) hi (by omega)
   rw [decide_eq_true (p := l.getD (i - 1) 0 < l.getD i 0) (by simpa [List.getD, hi, show i - 1 < l.length by omega] using this), Bool.or_true]
 ·intro h
  refine List.pairwise_iff_getElem.2 fun i j hi hj hij => ?_
  have step : ∀ k, i + k + 1 < l.length → l[i]'hi < l.getD (i + k + 1) 0 := by
   intro k
   induction k with
   | zero =>
    intro hk
    have := h (i + 1) (List.mem_range.2 hk)
    rw [decide_eq_false (p := i + 1 = 0) (by omega), Bool.false_or, decide_eq_true_eq, Nat.add_sub_cancel] at this
    simpa [List.getD, hi] using this
   | succ k ih =>
    intro hk
    have h1 := ih (by omega)
    have := h (i + k + 1 + 1) (List.mem_range.2 (by omega))
    rw [decide_eq_false (p := i + k + 1 + 1 = 0) (by omega), Bool.false_or, decide_eq_true_eq, Nat.add_sub_cancel] at this
    show l[i]'hi < l.getD (i + k + 1 + 1) 0
    omega
  have := step (j - i - 1) (by omega)
  rw [show i + (j - i - 1) + 1 = j by omega] at this
  simpa [List.getD, hj] using this
theorem may_spec' (N : Nat) (hN : 5000 < N) {m : DMemory} {roots : List DValue} (hs : Small m roots) (hw : W64 m) (hr : ∀ v ∈ roots, in64 v.N) (kept : List Int) (hk : kept.length ≤ 5000) (k64 : ∀ x ∈ kept, in64 x) : minor_may_O N m roots kept = some (mayM N m roots kept) := by
 have h3 := hs.roots
 have ho := hs.old
 -- the old cells
 have olds : minor_may_j10 N kept m = some (oldOk m kept) := by
  unfold minor_may_j10 oldOk
  have hlr : (List.range m.Old.length).length = m.Old.length := List.length_range
  refine loop_all (fun k i => minor_may_l25 N m kept k i) (List.range m.Old.length) _ (fun k i h => ?_) (fun k => ?_) N (by omega)
  ·rw [hlr] at h
   have hm : m.Old[i] ∈ m.Young ++ m.Old := List.mem_append_right _ (List.getElem_mem _)
   have hc := hs.cells _ hm
   obtain ⟨⟨a1, a2⟩, a3, a4⟩ := weakly_ok hs hw hm
   rw [minor_may_l25_s, lt_t (by omega), ct, getE_n h, bs, maddrs_spec N (by omega) _ hc.1 hc.2, bs, any_int N _ yB (addrC m.Old[i]) (by unfold addrC; rw [List.length_append]; omega) (by unfold addrC; rw [List.length_append]; omega) (fun x _ => young_spec N x), bs, r64 (a := 2 * (i : Int)) (by omega) (by omega), r64 (a := 2 * (i : Int) + 2) (by omega) (by omega), contains_prog N hN kept hk, bs, r64 (by omega) (by omega), List.getElem_range, atM_o m i h]
   cases (addrC m.Old[i]).any yB <;> cases decide ((2 * (i : Int) + 2) ∈ kept) <;> rfl
  ·rw [hlr, minor_may_l25_s, lt_f (by omega), cf]; rfl
 -- the kept addresses
 have hkept : minor_may_l11 N kept m N 0 = bif keptOk m kept then minor_may_j10 N kept m else some false := by
  have hlr : (List.range kept.length).length = kept.length := List.length_range
  have := loop_allk (fun k i => minor_may_l11 N kept m k i) (List.range kept.length) (fun i => (!yB (kept.getD i 0) && hasM m (kept.getD i 0)) && (decide (i = 0) || decide (kept.getD (i - 1) 0 < kept.getD i 0))) (some false) (minor_may_j10 N kept m) (fun k i h => ?_) (fun k => ?_) N (by omega)
  ·rw [this]
   have e : ((List.range kept.length).all fun i => (!yB (kept.getD i 0) && hasM m (kept.getD i 0)) && (decide (i = 0) || decide (kept.getD (i - 1) 0 < kept.getD i 0))) = keptOk m kept := by
    unfold keptOk
    rw [pair_iff]
    have e2 : kept.all (fun a => !yB a && hasM m a) = (List.range kept.length).all fun i => !yB (kept.getD i 0) && hasM m (kept.getD i 0) := by
     rw [Bool.eq_iff_iff, List.all_eq_true, List.all_eq_true]
     constructor
     ·intro h i hi
      rw [List.mem_range] at hi
      have : kept.getD i 0 = kept[i] := by simp [List.getD, hi]
      rw [this]; exact h _ (List.getElem_mem _)
     ·intro h x hx
      obtain ⟨i, hi, rfl⟩ := List.getElem_of_mem hx
      have := h i (List.mem_range.2 hi)
      rwa [show kept.getD i 0 = kept[i] by simp [List.getD, hi]] at this
    rw [e2]
    induction List.range kept.length with
    | nil => rfl
    | cons a l ih => rw [List.all_cons, List.all_cons, List.all_cons, ih]; cases (!yB (kept.getD a 0) && hasM m (kept.getD a 0)) <;> cases (decide (a = 0) || decide (kept.getD (a - 1) 0 < kept.getD a 0)) <;> simp
   rw [e]
  ·rw [hlr] at h
   have hg : kept.getD i 0 = kept[i] := by simp [List.getD, h]
   rw [minor_may_l11_s, lt_t (by omega), ct, getE_n h, bs, young_spec, bs, has_prog N m _ (k64 _ (List.getElem_mem _)), r64 (a := (i : Int) + 1) (by omega) (by omega), List.getElem_range, hg]
   by_cases h0 : i = 0
   ·subst h0
    rw [lt_f (a := 0) (b := ((0 : Nat) : Int)) (by omega)]
    cases yB kept[0] <;> cases hasM m kept[0] <;> rfl
   ·have hp : getE kept ((i : Int) - 1) = some (kept.getD (i - 1) 0) := by
     have := getE_n (xs := kept) (i := i - 1) (by omega)
     rw [show (((i - 1 : Nat)) : Int) = (i : Int) - 1 by omega] at this
     rw [this]; simp [List.getD, show i - 1 < kept.length by omega]
    rw [lt_t (a := 0) (b := (i : Int)) (by omega), ct, r64 (a := (i : Int) - 1) (by omega) (by omega), hp, decide_eq_false h0]
    simp only [bs]
    by_cases hlt : kept.getD (i - 1) 0 < kept[i]
    ·rw [le_f hlt, decide_eq_true hlt]
     cases yB kept[i] <;> cases hasM m kept[i] <;> rfl
    ·rw [le_t (by omega), decide_eq_false hlt]
     cases yB kept[i] <;> cases hasM m kept[i] <;> rfl
  ·rw [hlr, minor_may_l11_s, lt_f (by omega), cf]
 have hroots : slices_ContainsFunc_Value_O N roots (fun x => minor_may_c1_O N x m) = some (!wholeB m (addrL roots)) := by
  rw [any_val N _ (fun v => !(!hasB v || hasM m v.N)) roots (by omega) (by omega) (fun v hv => by
   unfold minor_may_c1_O
   rw [maddr_spec, bs]
   dsimp only
   rw [has_prog N m _ (hr v hv), bs]
   cases hasB v <;> cases hasM m v.N <;> rfl), any_not]
  unfold wholeB addrL
  rw [all_map, all_filter]
 unfold minor_may_O mayM
 rw [hroots, bs, sound_spec N hN hs hw, bs, hkept, olds]
 cases wholeB m (addrL roots) <;> cases soundM N m <;> cases keptOk m kept <;> rfl
end Go.Proofs.YtmbaennilhdieaaGreat
/- Plain: what the law of layer 20 makes of its arguments. -/
namespace Go.Proofs.YtmbaennilhdieaaGreat
open Go.RowKit
def cutC (c : DCell) : DCell := ⟨c.Kind, c.Shape, c.Flags, c.Age, c.Slots.take 20, c.More.take 40⟩
def fewL (l : List DCell) : List DCell := (l.take 40).map cutC
def fewM (m : DMemory) : DMemory := ⟨fewL m.Young, fewL m.Old⟩
theorem take_min {α : Type} (l : List α) {z : Int} {k : Nat} (h : z = k) : (l.drop 0).take ((min (l.length : Int) z).toNat - 0) = l.take k := by
 rw [List.drop_zero]
 by_cases h2 : k ≤ l.length
 ·congr 1; omega
 ·rw [List.take_of_length_le (by omega), List.take_of_length_le (by omega)]
theorem fewL_take {l : List DCell} {i : Nat} (h : i < l.length) (h2 : i < 40) : fewL (l.take (i + 1)) = fewL (l.take i) ++ [cutC l[i]] := by
 unfold fewL
 rw [List.take_take, List.take_take, Nat.min_eq_right (by omega), Nat.min_eq_right (by omega), take_succ_get h, List.map_append]; rfl
theorem few20 (N : Nat) (hN : 100 < N) (l : List DCell) (hl : l.length ≤ 140737488355328) : w20_few_O N l = some (fewL l) := by
 apply Sat.eq
 unfold w20_few_O
 refine loop_inv (fun k i s => w20_few_l4 N l k s (i : Int)) (min l.length 40) (fun i s => s = fewL (l.take i)) _ ?_ ?_ N 0 [] (by omega) (by omega) rfl
 ·rintro k i s hi rfl go
  have h1 : i < l.length := by omega
  show Sat (w20_few_l4 N l (k + 1) _ (i : Int)) _
  have hlen : (fewL (l.take i)).length = i := by unfold fewL; simp; omega
  rw [w20_few_l4_s, lt_t (by omega), ct, lt_t (by omega), bs, ct, getE_n h1, bs, req_t ⟨by omega, by omega, by omega⟩, req_t ⟨by omega, by omega, by omega⟩, rF (by rw [hlen]; simp; omega), r64 (by omega) (by omega), take_min (z := 20) (k := 20) _ rfl, take_min (z := 40) (k := 40) _ rfl]
  exact go _ (by rw [fewL_take h1 (by omega)]; rfl)
 ·rintro k s rfl
  show Sat (w20_few_l4 N l (k + 1) _ _) _
  have e : fewL (l.take (min l.length 40)) = fewL l := by
   unfold fewL
   rw [List.take_take]
   by_cases h : 40 ≤ l.length
   ·rw [show min 40 (min l.length 40) = 40 by omega]
   ·rw [List.take_of_length_le (i := min 40 (min l.length 40)) (by omega), List.take_of_length_le (i := 40) (by omega)]
  rw [w20_few_l4_s, e]
  by_cases h : l.length ≤ 40
  ·rw [lt_f (by omega), cf, bs, cf]; exact sat_some rfl
  ·rw [lt_t (by omega), ct, lt_f (by omega), bs, cf]; exact sat_some rfl
theorem fewM_spec (N : Nat) (hN : 100 < N) (m : DMemory) (h1 : m.Young.length ≤ 140737488355328) (h2 : m.Old.length ≤ 140737488355328) : w20_Few_O N m = some (fewM m) := by
 unfold w20_Few_O
 rw [few20 N hN _ h1, bs, few20 N hN _ h2, bs]; rfl
theorem fewL_mem {l : List DCell} {c : DCell} (h : c ∈ fewL l) : ∃ d ∈ l, c = cutC d := by
 obtain ⟨d, hd, e⟩ := List.mem_map.1 h
 exact ⟨d, List.mem_of_mem_take hd, e.symm⟩
theorem fewL_len (l : List DCell) : (fewL l).length ≤ 40 := by unfold fewL; simp; omega
structure Few20 (m : DMemory) (roots : List DValue) : Prop where
 young : m.Young.length ≤ 40
 old : m.Old.length ≤ 40
 roots : roots.length ≤ 40
 cells : ∀ c ∈ m.Young ++ m.Old, c.Slots.length ≤ 20 ∧ c.More.length ≤ 40
theorem Few20.small {m : DMemory} {roots : List DValue} (h : Few20 m roots) : Small m roots := ⟨by have := h.young; omega, by have := h.old; omega, by have := h.roots; omega, fun c hc => by have := h.cells c hc; omega⟩
theorem few_ok (m : DMemory) (roots : List DValue) : Few20 (fewM m) (roots.take 40) := ⟨fewL_len _, fewL_len _, by simp; omega, fun c hc => by
 obtain ⟨d, -, rfl⟩ : ∃ d ∈ m.Young ++ m.Old, c = cutC d := by
  rcases List.mem_append.1 hc with hc | hc
  ·obtain ⟨d, h1, h2⟩ := fewL_mem hc; exact ⟨d, List.mem_append_left _ h1, h2⟩
  ·obtain ⟨d, h1, h2⟩ := fewL_mem hc; exact ⟨d, List.mem_append_right _ h1, h2⟩
 unfold cutC; simp; omega⟩
theorem few_w64 {m : DMemory} (h : W64 m) : W64 (fewM m) := fun c hc v hv => by
 obtain ⟨d, hd, rfl⟩ : ∃ d ∈ m.Young ++ m.Old, c = cutC d := by
  rcases List.mem_append.1 hc with hc | hc
  ·obtain ⟨d, h1, h2⟩ := fewL_mem hc; exact ⟨d, List.mem_append_left _ h1, h2⟩
  ·obtain ⟨d, h1, h2⟩ := fewL_mem hc; exact ⟨d, List.mem_append_right _ h1, h2⟩
 refine h d hd v ?_
 rcases List.mem_append.1 hv with hv | hv
 ·exact List.mem_append_left _ (List.mem_of_mem_take hv)
 ·exact List.mem_append_right _ (List.mem_of_mem_take hv)
theorem young20 (N : Nat) (a : Int) : r20_Young_O N a = some (yB a) := by
 unfold r20_Young_O yB
 cases decide (0 < a) <;> cases decide (a.tmod 2 = 1) <;> rfl
theorem has20 (N : Nat) (m : DMemory) (a : Int) (h : in64 a) : r20_Has_O N m a = some (hasM m a) := by
 unfold in64 at h
 unfold r20_Has_O hasM
 rcases addr_cases m a with ⟨h1, h2⟩ | ⟨k, h1, h2⟩ | ⟨k, h1, h2⟩
 ·rw [h2, lt_t h1]; rfl
 ·subst h1
  rw [h2, lt_f (by omega), cf, young20, bs, yB_odd, ct, tdiv2 (by omega), show (2 * (k : Int) + 1) / 2 = k by omega, req_t (by unfold in64; omega), isSome_lt]
 ·subst h1
  rw [h2, lt_f (by omega), cf, young20, bs, yB_even, cf, tdiv2 (by omega), show (2 * (k : Int) + 2) / 2 = (k : Int) + 1 by omega, req_t (by unfold in64; omega), req_t (by unfold in64; omega), show (k : Int) + 1 - 1 = k by omega, isSome_lt]
theorem every20 (N : Nat) (m : DMemory) (l : List Int) (hl : l.length < N) (hl2 : l.length ≤ 5000) (h64 : ∀ x ∈ l, in64 x) : r20_every_O N m l = some (wholeB m l) := by
 unfold r20_every_O wholeB
 refine loop_all _ l _ (fun k i h => ?_) (fun k => ?_) N hl
 ·rw [r20_every_l6_s, lt_t (by omega), ct, getE_n h, bs, has20 N m _ (h64 _ (List.getElem_mem _)), bs, r64 (by omega) (by omega)]
  cases hasM m l[i] <;> rfl
 ·rw [r20_every_l6_s, lt_f (by omega), cf]; rfl
theorem roots20 (N : Nat) (l : List DValue) (hl : l.length < N) (hl2 : l.length ≤ 5000) : r20_Roots_O N l = some (addrL l) := by
 apply Sat.eq
 unfold r20_Roots_O
 refine loop_inv (fun k i s => r20_Roots_l4 N l k s (i : Int)) l.length (fun i s => s = addrL (l.take i) ∧ s.length ≤ i) _ ?_ ?_ N 0 [] (by omega) (by omega) ⟨rfl, Nat.le_refl _⟩
 ·rintro k i s hi ⟨rfl, h2⟩ go
  show Sat (r20_Roots_l4 N l (k + 1) _ (i : Int)) _
  have hnext : addrL (l.take (i + 1)) = addrL (l.take i) ++ addrL [l[i]] := by rw [take_succ_get hi, addrL_app]
  rw [r20_Roots_l4_s, lt_t (by omega), ct, getE_n hi, bs]
  simp only [bs]
  have hb : (bif decide (l[i].Kind = 7) then some true else some (decide (l[i].Kind = 9))) = some (hasB l[i]) := by unfold hasB; cases decide (l[i].Kind = 7) <;> rfl
  rw [hb, bs]
  unfold r20_Roots_j9
  rw [r64 (by omega) (by omega), r64 (by omega) (by omega)]
  cases h3 : hasB l[i]
  ·rw [cf]
   have e : addrL [l[i]] = [] := by simp [addrL, h3]
   exact go _ ⟨by rw [hnext, e, List.append_nil], by omega⟩
  ·rw [ct, rF (by simp; omega)]
   have e : addrL [l[i]] = [l[i].N] := by simp [addrL, h3]
   exact go _ ⟨by rw [hnext, e], by simp; omega⟩
 ·rintro k s ⟨rfl, h2⟩
  show Sat (r20_Roots_l4 N l (k + 1) _ _) _
  rw [r20_Roots_l4_s, lt_f (by omega), cf, List.take_length]
  exact sat_some rfl
def fineM (N : Nat) (m : DMemory) (roots : List DValue) : Bool := wholeB m (addrL roots) && soundM N m
theorem fine20 (N : Nat) (hN : 5000 < N) {m : DMemory} {roots : List DValue} (hs : Small m roots) (hw : W64 m) (hr : ∀ v ∈ roots, in64 v.N) : r20_Fine_O N m roots = some (fineM N m roots) := by
 have h1 := hs.young; have h2 := hs.old; have h3 := hs.roots
 have hl : (m.Young ++ m.Old).length = m.Young.length + m.Old.length := List.length_append
 have body : ∀ (kb : Int → Option Bool) (i : Nat) (c : DCell), c ∈ m.Young ++ m.Old → i < 1200 → r20_Fine_j15 N kb (i : Int) m c.Kind c.Shape c.Flags c.Age c.Slots c.More = bif fineC N m c then kb ((i : Int) + 1) else some false := by
  intro kb i c hm hi
  have hc := hs.cells _ hm
  obtain ⟨⟨a1, a2⟩, a3, a4⟩ := weakly_ok hs hw hm
  obtain ⟨b, hb, -⟩ := right_tot N (by omega) c (by omega) (by omega)
  have hb' : r15_Right_O N ⟨c.Kind, c.Shape, c.Flags, c.Age, c.Slots, c.More⟩ = some b := hb
  have hl' : r15_Leads_O N ⟨c.Kind, c.Shape, c.Flags, c.Age, c.Slots, c.More⟩ = _ := leads_ref N (by omega) c (by omega) (by omega)
  have hw' : r15_Weakly_O N ⟨c.Kind, c.Shape, c.Flags, c.Age, c.Slots, c.More⟩ = _ := weakly_ref N (by omega) c (by omega)
  unfold r20_Fine_j15
  rw [hb', bs, hl', hw', bs, bs, every20 N m _ (by omega) (by omega) a2, every20 N m _ (by omega) (by omega) a4, bs, bs, r64 (by omega) (by omega)]
  unfold fineC
  rw [hb]
  cases b <;> cases wholeB m (leadsL c) <;> cases wholeB m (weaklyL c) <;> rfl
 have cells : r20_Fine_l10 N m N 0 = some (soundM N m) := by
  unfold soundM
  refine loop_all (fun k i => r20_Fine_l10 N m k i) (m.Young ++ m.Old) _ (fun k i h => ?_) (fun k => ?_) N (by omega)
  ·rw [r20_Fine_l10_s, r64 (by omega) (by omega), lt_t (by omega), ct]
   by_cases hi : i < m.Young.length
   ·rw [lt_t (by omega), ct, getE_n hi, bs, body _ i _ (List.mem_append_left _ (List.getElem_mem _)) (by omega), List.getElem_append_left hi]
   ·have hj : i - m.Young.length < m.Old.length := by omega
    rw [lt_f (by omega), cf, r64 (by omega) (by omega), show (i : Int) - (m.Young.length : Int) = ((i - m.Young.length : Nat) : Int) by omega, getE_n hj, bs, body _ i _ (List.mem_append_right _ (List.getElem_mem _)) (by omega), List.getElem_append_right (by omega)]
  ·rw [hl, r20_Fine_l10_s, r64 (by omega) (by omega), lt_f (by omega), cf]; rfl
 unfold r20_Fine_O fineM
 have h64 : ∀ x ∈ addrL roots, in64 x := fun x hx => by
  obtain ⟨v, hv, -, rfl⟩ := addrL_mem.1 hx
  exact hr v hv
 have hal : (addrL roots).length ≤ roots.length := by unfold addrL; rw [List.length_map]; exact List.length_filter_le _ _
 rw [roots20 N _ (by omega) (by omega), bs, every20 N m _ (by omega) (by omega) h64, bs, cells]
 cases wholeB m (addrL roots) <;> rfl
def oldsY (m : DMemory) (i : Nat) : Bool := (addrC (atM m (2 * (i : Int) + 2))).any yB
def keptS (m : DMemory) : List Int := ((List.range m.Old.length).filter (oldsY m)).map fun i : Nat => 2 * (i : Int) + 2
theorem kept20 (N : Nat) (hN : 5000 < N) {m : DMemory} {roots : List DValue} (hs : Small m roots) : w20_kept_O N m = some (keptS m) := by
 have ho := hs.old
 apply Sat.eq
 unfold w20_kept_O
 refine loop_inv (fun k i s => w20_kept_l6 N m k s (i : Int)) m.Old.length (fun i s => s = ((List.range i).filter (oldsY m)).map (fun i : Nat => 2 * (i : Int) + 2)) _ ?_ ?_ N 0 [] (by omega) (by omega) rfl
 ·rintro k i s hi rfl go
  have hc := hs.cells _ (List.mem_append_right m.Young (List.getElem_mem hi))
  have hlen : ∀ i, (((List.range i).filter (oldsY m)).map (fun i : Nat => 2 * (i : Int) + 2)).length ≤ i := fun i => by rw [List.length_map]; exact Nat.le_trans (List.length_filter_le _ _) (by simp)
  have hli := hlen i
  show Sat (w20_kept_l6 N m (k + 1) _ (i : Int)) _
  have ll := leadsL_len m.Old[i]
  have lw := weaklyL_len m.Old[i]
  rw [w20_kept_l6_s, lt_t (by omega), ct, getE_n hi, bs, bs, leads_ref N (by omega) _ (by omega) (by omega), weakly_ref N (by omega) _ (by omega), bs, bs, rF (by omega)]
  have hnext : ((List.range (i + 1)).filter (oldsY m)).map (fun i : Nat => 2 * (i : Int) + 2) = ((List.range i).filter (oldsY m)).map (fun i : Nat => 2 * (i : Int) + 2) ++ (bif oldsY m i then [2 * (i : Int) + 2] else []) := by
   rw [List.range_succ, List.filter_append, List.map_append]
   cases h : oldsY m i <;> simp [h]
  have hl2 : (leadsL m.Old[i] ++ weaklyL m.Old[i]).length ≤ 2400 := by rw [List.length_append]; omega
  refine loop_inv (fun k2 j (b : Bool) => w20_kept_l29 N (w20_kept_l6 N m k) (i : Int) _ (leadsL m.Old[i]) (weaklyL m.Old[i]) m k2 b (j : Int)) (leadsL m.Old[i] ++ weaklyL m.Old[i]).length (fun j b => b = ((leadsL m.Old[i] ++ weaklyL m.Old[i]).take j).any yB) _ ?_ ?_ N 0 false (by omega) (by omega) rfl
  ·rintro k2 j b hj rfl go2
   show Sat (w20_kept_l29 N _ (i : Int) _ _ _ m (k2 + 1) _ (j : Int)) _
   have hb : (bif ((leadsL m.Old[i] ++ weaklyL m.Old[i]).take j).any yB then some true else ((getE (leadsL m.Old[i] ++ weaklyL m.Old[i]) (j : Int)).bind fun x34 => (r20_Young_O N x34).bind fun y35 => some y35)) = some (((leadsL m.Old[i] ++ weaklyL m.Old[i]).take (j + 1)).any yB) := by
    rw [getE_n hj, bs, young20, bs, take_succ_get hj, List.any_append]
    cases ((leadsL m.Old[i] ++ weaklyL m.Old[i]).take j).any yB <;> simp
   rw [w20_kept_l29_s, lt_t (by omega), ct, hb, bs, r64 (by omega) (by omega)]
   exact go2 _ rfl
  ·rintro k2 b rfl
   show Sat (w20_kept_l29 N _ (i : Int) _ _ _ m (k2 + 1) _ _) _
   rw [w20_kept_l29_s, lt_f (by omega), cf, List.take_length]
   unfold w20_kept_j27 w20_kept_j11
   have e : (leadsL m.Old[i] ++ weaklyL m.Old[i]).any yB = oldsY m i := by unfold oldsY addrC; rw [atM_o m i hi]
   rw [e, r64 (by omega) (by omega), r64 (by omega) (by omega), r64 (by omega) (by omega), r64 (by omega) (by omega), rF (by simp only [List.length_map] at hli ⊢; simp; omega)]
   cases h : oldsY m i
   ·rw [cf]; exact go _ (by rw [hnext, h, cf, List.append_nil])
   ·rw [ct]; exact go _ (by rw [hnext, h, ct])
 ·rintro k s rfl
  show Sat (w20_kept_l6 N m (k + 1) _ _) _
  rw [w20_kept_l6_s, lt_f (by omega), cf]
  exact sat_some rfl
theorem keptS_mem {m : DMemory} {x : Int} : x ∈ keptS m ↔ ∃ i : Nat, i < m.Old.length ∧ oldsY m i = true ∧ x = 2 * (i : Int) + 2 := by
 unfold keptS
 simp only [List.mem_map, List.mem_filter, List.mem_range]
 constructor
 ·rintro ⟨i, ⟨h1, h2⟩, rfl⟩; exact ⟨i, h1, h2, rfl⟩
 ·rintro ⟨i, h1, h2, rfl⟩; exact ⟨i, ⟨h1, h2⟩, rfl⟩
theorem keptS_len {m : DMemory} : (keptS m).length ≤ m.Old.length := by unfold keptS; rw [List.length_map]; exact Nat.le_trans (List.length_filter_le _ _) (by simp)
theorem keptS_has {m : DMemory} {x : Int} (h : x ∈ keptS m) : hasM m x = true ∧ yB x = false := by
 obtain ⟨i, h1, -, rfl⟩ := keptS_mem.1 h
 exact ⟨by rw [hasM_o]; exact decide_eq_true h1, yB_even i⟩
theorem keptS_ok (m : DMemory) : keptOk m (keptS m) = true := by
 unfold keptOk
 rw [Bool.and_eq_true, decide_eq_true_eq, List.all_eq_true]
 refine ⟨fun x hx => ?_, ?_⟩
 ·obtain ⟨h1, h2⟩ := keptS_has hx
  rw [h1, h2]; rfl
 ·unfold keptS
  refine List.Pairwise.map _ (fun a b (h : a < b) => ?_) ((List.pairwise_lt_range).filter _)
  omega
theorem oldS_ok (m : DMemory) : oldOk m (keptS m) = true := by
 unfold oldOk
 rw [List.all_eq_true]
 intro i hi
 rw [List.mem_range] at hi
 cases h : (addrC (atM m (2 * (i : Int) + 2))).any yB
 ·rfl
 ·have : (2 * (i : Int) + 2) ∈ keptS m := keptS_mem.2 ⟨i, hi, h, rfl⟩
  rw [decide_eq_true this]; rfl
theorem may_keptS (N : Nat) (m : DMemory) (roots : List DValue) : mayM N m roots (keptS m) = fineM N m roots := by
 unfold mayM fineM
 rw [keptS_ok, oldS_ok, Bool.and_true, Bool.and_true]
end Go.Proofs.YtmbaennilhdieaaGreat
/- Plain: the young cells that a minor collection finds are those that package reach finds. -/
namespace Go.Proofs.YtmbaennilhdieaaGreat
open Go.RowKit
theorem awake20_true : w20_awake_O 6000 = some true := by kernel_rfl
theorem evens_mem {n : Nat} {x : Int} : x ∈ evens n ↔ ∃ i : Nat, i < n ∧ x = 2 * (i : Int) + 2 := by
 unfold evens
 simp only [List.mem_map, List.mem_range]
 constructor
 ·rintro ⟨i, h, rfl⟩; exact ⟨i, h, rfl⟩
 ·rintro ⟨i, h, rfl⟩; exact ⟨i, h, rfl⟩
def inners (n : Nat) : List DValue := (List.range n).map fun i : Nat => (⟨9, 2 * (i : Int) + 2, ⟨#[]⟩⟩ : DValue)
theorem inners_succ (n : Nat) : inners (n + 1) = inners n ++ [⟨9, 2 * (n : Int) + 2, ⟨#[]⟩⟩] := by unfold inners; rw [List.range_succ, List.map_append]; rfl
theorem inners_len (n : Nat) : (inners n).length = n := by unfold inners; simp
theorem addrL_inners : ∀ n : Nat, addrL (inners n) = evens n
 | 0 => rfl
 | n + 1 => by
  rw [inners_succ, addrL_app, addrL_inners n]
  unfold evens
  rw [List.range_succ, List.map_append]; rfl
theorem opensL_mono {N : Nat} {c : DCell} {row l : List Int} (hr : ∀ x ∈ row, x ∈ l) {x : Int} (h : x ∈ opensL N c row) : x ∈ opensL N c l := by
 unfold opensL at h ⊢
 cases hw : isWM N c with
 | false => rw [hw] at h; cases h
 | true =>
  rw [hw] at h
  exact opens_mono (fun y hy => decide_eq_true (hr y (of_decide_eq_true hy))) h
theorem has_even {m : DMemory} {a : Int} (h : hasM m a = true) (hy : yB a = false) : ∃ i : Nat, i < m.Old.length ∧ a = 2 * (i : Int) + 2 := by
 rcases hasM_form h with ⟨i, hi, rfl⟩ | h
 ·rw [yB_odd] at hy; cases hy
 ·exact h
theorem keptS_in {m : DMemory} {i : Nat} (hi : i < m.Old.length) {x : Int} (hx : x ∈ addrC (atM m (2 * (i : Int) + 2))) (hy : yB x = true) : (2 * (i : Int) + 2) ∈ keptS m := keptS_mem.2 ⟨i, hi, List.any_eq_true.2 ⟨x, hx, hy⟩, rfl⟩
theorem opens_addr {N : Nat} {c : DCell} {l : List Int} {x : Int} (h : x ∈ opensL N c l) : x ∈ addrC c := by
 unfold opensL at h
 cases hw : isWM N c with
 | false => rw [hw] at h; cases h
 | true =>
  rw [hw] at h
  obtain ⟨v, hv, hb, rfl⟩ := opens_has h
  exact addr_in (List.mem_append_right _ hv) hb
theorem young_part {N : Nat} {m : DMemory} {roots : List DValue} {b all mb ml : List Int} (hw : Whole m) (hr : ∀ x ∈ addrL roots, hasM m x = true) (ho : IsOrder (grM N m) (addrL (roots ++ inners m.Old.length)) b all) (hm : IsMinor (grY N m) (evens m.Old.length) (keptS m) (startM m roots (keptS m)) mb ml) (x : Int) : x ∈ ml ↔ x ∈ all ∧ yB x = true := by
 have hall : ∀ x ∈ all, hasM m x = true := ho.has.2
 have holds : ∀ x ∈ evens m.Old.length, x ∈ all := fun x hx => by
  obtain ⟨i, hi, rfl⟩ := evens_mem.1 hx
  exact ho.sub (ho.roots (by rw [addrL_app, addrL_inners]; exact List.mem_append_right _ hx) (by show hasM m _ = true; rw [hasM_o]; exact decide_eq_true hi))
 have hkept : ∀ x ∈ keptS m, x ∈ all := fun x hx => by
  obtain ⟨i, hi, -, rfl⟩ := keptS_mem.1 hx
  exact holds _ (evens_mem.2 ⟨i, hi, rfl⟩)
 have hcl := ho.closed
 have hml := hm.closed
 constructor
 ·refine fun h => hm.in_ (S := fun x => x ∈ all ∧ yB x = true) ?_ ?_ ?_ x h
  ·intro x hx hy
   refine ⟨?_, hy⟩
   unfold startM at hx
   rcases List.mem_append.1 hx with hx | hx
   ·exact ho.sub (ho.roots (by rw [addrL_app]; exact List.mem_append_left _ hx) (hr x hx))
   ·obtain ⟨a, ha, hx⟩ := List.mem_flatMap.1 hx
    exact hcl.1 a (hkept a ha) x hx (hw.leads (keptS_has ha).1 x hx)
  ·rintro a ⟨ha, -⟩ x hx hy
   exact ⟨hcl.1 a ha x hx (hw.leads (hall a ha) x hx), hy⟩
  ·intro live a hl ha x hx hy
   have ha' : a ∈ all := ha.elim (hkept a) (·.1)
   exact ⟨hcl.2 a ha' x (opensL_mono (fun y hy => (hl y hy).elim (holds y) (·.1)) hx) (hw.opens (hall a ha') x hx), hy⟩
 ·rintro ⟨h, hy⟩
  refine (ho.in_ (S := fun x => hasM m x = true ∧ (yB x = true → x ∈ ml)) ⟨?_, ?_⟩ ?_ x h).2 hy
  ·rintro a ⟨ha, h2⟩ x hx hh
   refine ⟨hh, fun hy => ?_⟩
   cases hya : yB a with
   | true => exact hml.1 a (h2 hya) x hx hy
   | false =>
    obtain ⟨i, hi, rfl⟩ := has_even ha hya
    exact hm.start (List.mem_append_right _ (List.mem_flatMap.2 ⟨_, keptS_in hi (List.mem_append_left _ hx) hy, hx⟩)) hy
  ·rintro row hrow a ⟨ha, h2⟩ x hx hh
   refine ⟨hh, fun hy => ?_⟩
   have hlive : ∀ y ∈ row, y ∈ evens m.Old.length ++ ml := fun y hy => by
    obtain ⟨h3, h4⟩ := hrow y hy
    cases hyy : yB y with
    | true => exact List.mem_append_right _ (h4 hyy)
    | false =>
     obtain ⟨i, hi, rfl⟩ := has_even h3 hyy
     exact List.mem_append_left _ (evens_mem.2 ⟨i, hi, rfl⟩)
   refine hml.2 a ?_ x (opensL_mono hlive hx) hy
   cases hya : yB a with
   | true => exact List.mem_append_right _ (h2 hya)
   | false =>
    obtain ⟨i, hi, rfl⟩ := has_even ha hya
    exact List.mem_append_left _ (keptS_in hi (opens_addr hx) hy)
  ·intro x hx hh
   refine ⟨hh, fun hy => ?_⟩
   rw [addrL_app, addrL_inners] at hx
   rcases List.mem_append.1 hx with hx | hx
   ·exact hm.start (List.mem_append_left _ hx) hy
   ·obtain ⟨i, -, rfl⟩ := evens_mem.1 hx
    rw [yB_even] at hy; cases hy
theorem fineM_ok {N : Nat} {m : DMemory} {roots : List DValue} (h : fineM N m roots = true) : Whole m ∧ (∀ x ∈ addrL roots, hasM m x = true) ∧ ∀ c ∈ m.Young ++ m.Old, fineC N m c = true := by
 unfold fineM at h
 rw [Bool.and_eq_true] at h
 have h2 : ∀ c ∈ m.Young ++ m.Old, fineC N m c = true := fun c hc => all_mem h.2 hc
 refine ⟨fun a ha x hx => ?_, fun x hx => all_mem h.1 hx, h2⟩
 have h3 := h2 (atM m a) (by
  unfold hasM at ha; unfold atM
  cases hc : cellAt m a with
  | none => rw [hc] at ha; cases ha
  | some c => exact cellAt_mem hc)
 unfold fineC at h3
 rw [Bool.and_eq_true, Bool.and_eq_true] at h3
 rcases List.mem_append.1 hx with hx | hx
 ·exact all_mem h3.2.1 hx
 ·exact all_mem h3.2.2 hx
theorem mreach_law {m0 : DMemory} {roots0 : List DValue} (hb : Bnd 140737488355328 m0 roots0) (hw0 : W64 m0) (hr0 : ∀ v ∈ roots0, in64 v.N) : w20_MinorReach_O 6000 m0 roots0 = some true := by
 have hbr := hb.roots
 have h4 := few_ok m0 roots0
 have hw := few_w64 hw0
 have hr : ∀ v ∈ roots0.take 40, in64 v.N := fun v hv => hr0 v (List.mem_of_mem_take hv)
 have et : (roots0.drop 0).take ((min (roots0.length : Int) 40).toNat - 0) = roots0.take 40 := take_min _ rfl
 have hfew := fewM_spec 6000 (by decide) m0 hb.young hb.old
 apply Sat.eq
 unfold w20_MinorReach_O
 rw [awake20_true, bs, nt, cf, hfew, bs, req_t ⟨by omega, by omega, by omega⟩, et]
 generalize fewM m0 = m at *
 have hro := h4.roots
 have hy := h4.young
 have ho := h4.old
 have hs := h4.small
 have hkl : (keptS m).length ≤ 40 := by have := @keptS_len m; omega
 have k64 : ∀ x ∈ keptS m, in64 x := fun x hx => in64_of hs (keptS_has hx).1
 have hmay : minor_may_O 6000 m (roots0.take 40) (keptS m) = some (fineM 6000 m (roots0.take 40)) := by
  rw [may_spec' 6000 (by decide) hs hw hr (keptS m) (by omega) k64, may_keptS]
 rw [fine20 6000 (by decide) hs hw hr, bs, kept20 6000 (by decide) hs, bs]
 cases hf : fineM 6000 m (roots0.take 40)
 ·rw [nf, ct]
  unfold minor_Live_O
  rw [hmay, hf, bs, nf, ct, bs]
  exact sat_some rfl
 rw [nt, cf, rF (by simp only [List.length_nil]; omega), List.nil_append]
 obtain ⟨hwh, hrt, -⟩ := fineM_ok hf
 refine loop_inv (fun k i s => w20_MinorReach_l27 6000 roots0 m k s (i : Int)) m.Old.length (fun i s => s = roots0.take 40 ++ inners i) _ ?_ ?_ 6000 0 _ (by omega) (by omega) (by show _ = _ ++ []; rw [List.append_nil])
 ·rintro k i s hi rfl go
  show Sat (w20_MinorReach_l27 6000 roots0 m (k + 1) _ (i : Int)) _
  have h5 := inners_len i
  rw [w20_MinorReach_l27_s, lt_t (by omega), ct, r64 (by omega) (by omega), r64 (by omega) (by omega), rF (by rw [List.length_append, h5]; simp; omega), r64 (by omega) (by omega)]
  exact go _ (by rw [inners_succ, List.append_assoc])
 ·rintro k s rfl
  show Sat (w20_MinorReach_l27 6000 roots0 m (k + 1) _ _) _
  rw [w20_MinorReach_l27_s, lt_f (by omega), cf]
  unfold w20_MinorReach_j25
  have h5 := inners_len m.Old.length
  have hsA : Small m (roots0.take 40 ++ inners m.Old.length) := ⟨hs.young, hs.old, by rw [List.length_append]; omega, hs.cells⟩
  have hrA : ∀ v ∈ roots0.take 40 ++ inners m.Old.length, in64 v.N := fun v hv => by
   rcases List.mem_append.1 hv with hv | hv
   ·exact hr v hv
   ·obtain ⟨i, hi, rfl⟩ := List.mem_map.1 hv
    rw [List.mem_range] at hi
    show in64 (2 * (i : Int) + 2)
    unfold in64; omega
  obtain ⟨live, f, hl⟩ := live_ok 6000 (by decide) hsA hw hrA
  obtain ⟨bb, all, hord, hlive, -⟩ := hl.ord
  rw [hl.prog, bs, et, kept20 6000 (by decide) hs, bs]
  unfold minor_Live_O
  rw [hmay, hf, bs, nt, cf]
  have hms : Sat ((minor_all_O 6000 m (roots0.take 40) (keptS m)).bind fun y9 => some y9.met_) fun ml => ∃ mb, IsMinor (grY 6000 m) (evens m.Old.length) (keptS m) (startM m (roots0.take 40) (keptS m)) mb ml := by
   refine Sat.bind (mall_spec 6000 (by decide) hs hwh hrt (keptS m) (fun x hx => (keptS_has hx).1) (by omega)) ?_
   rintro r ⟨_, _, mb, _, _, h6⟩
   exact sat_some ⟨mb, h6⟩
  refine Sat.bind hms ?_
  rintro ml ⟨mb, hm⟩
  have hyp := young_part hwh hrt hord hm
  have hlen : ml.length = (live.filter yB).length := by
   have e : sortL ml = live.filter yB := sortL_eq hm.nodup (hl.asc.filter _) fun x => by
    rw [hyp x, List.mem_filter, hlive, sortL_mem]
   rw [← e, sortL_len]
  have hls := hl.small
  have hmem : ∀ x ∈ live, x ∈ all := fun x hx => by rw [hlive, sortL_mem] at hx; exact hx
  have hml : ml.length ≤ 1200 := by rw [hlen]; exact Nat.le_trans (List.length_filter_le _ _) hls
  refine loop_inv (fun k i (c : Nat) => w20_MinorReach_l45 6000 live ml k (c : Int) (i : Int)) live.length (fun i c => c = ((live.take i).filter yB).length ∧ c ≤ i) _ ?_ ?_ 6000 0 0 (by omega) (by omega) ⟨rfl, Nat.le_refl _⟩
  ·rintro k i c hi ⟨rfl, h7⟩ go
   show Sat (w20_MinorReach_l45 6000 live ml (k + 1) _ (i : Int)) _
   have hnext : ((live.take (i + 1)).filter yB).length = ((live.take i).filter yB).length + (bif yB live[i] then 1 else 0) := by
    rw [take_succ_get hi, List.filter_append, List.length_append]
    cases h : yB live[i] <;> simp [h]
   rw [w20_MinorReach_l45_s, lt_t (by omega), ct, getE_n hi, bs, bs, young20, bs]
   unfold w20_MinorReach_j49
   rw [r64 (by omega) (by omega), r64 (by omega) (by omega), r64 (by omega) (by omega)]
   cases h : yB live[i]
   ·rw [cf]
    exact go ((live.take i).filter yB).length ⟨by rw [hnext, h]; rfl, by omega⟩
   ·have hin : live[i] ∈ ml := (hyp _).2 ⟨hmem _ (List.getElem_mem hi), h⟩
    rw [ct, in17 6000 (by decide) ml (by omega), bs, decide_eq_true hin, nt, cf]
    exact go (((live.take i).filter yB).length + 1) ⟨by rw [hnext, h]; rfl, by omega⟩
  ·rintro k c ⟨rfl, h7⟩
   show Sat (w20_MinorReach_l45 6000 live ml (k + 1) _ _) _
   rw [w20_MinorReach_l45_s, lt_f (by omega), cf, List.take_length]
   unfold w20_MinorReach_j43
   rw [decide_eq_true (by omega)]
   exact sat_some rfl
theorem mreach_top (m : DMemory) (roots : List DValue) (hm : wfwDMemory m) (hr : WfL (fun z => wfwDValue z) roots) : w20_MinorReach_O 6000 m roots = some true := by
 obtain ⟨h1, h2, h3⟩ := read_mem m roots hm hr
 exact mreach_law h1 h2 h3
end Go.Proofs.YtmbaennilhdieaaGreat