/- Plain: cleaned weak maps, bare registries, equal values. -/
import Derived.Test.YtmbaennilhdieaaRs2
import Derived.Test.YtmbaennilhdieaaRs4
namespace Go.Proofs.Ytmbaennilhdieaa
open Go.RowKit

/-- the entries whose keys are kept -/
def cleanL (p : Int → Bool) : List DValue → List DValue
  | k :: v :: r => (bif p k.N then [k, v] else []) ++ cleanL p r
  | _ => []
theorem cleanL_len (p : Int → Bool) : ∀ l : List DValue, (cleanL p l).length ≤ l.length
  | [] => by simp [cleanL]
  | [_] => by simp [cleanL]
  | k :: v :: r => by
    have := cleanL_len p r
    unfold cleanL
    cases p k.N <;> simp <;> omega
theorem cleanL_mem {p : Int → Bool} {x : DValue} : ∀ {l : List DValue}, x ∈ cleanL p l → x ∈ l
  | [], h => by simp [cleanL] at h
  | [_], h => by simp [cleanL] at h
  | k :: v :: r, h => by
    unfold cleanL at h
    rcases List.mem_append.1 h with h | h
    · cases hp : p k.N with
      | false => rw [hp] at h; cases h
      | true => rw [hp] at h; simp at h; rcases h with h | h <;> simp [h]
    · have := cleanL_mem h; simp [this]
def cleanW (N : Nat) (l : List Int) (c : DCell) : DCell := bif isWM N c then ⟨c.Kind, c.Shape, c.Flags, c.Age, c.Slots, cleanL (fun x => decide (x ∈ l)) c.More⟩ else c
theorem kept_body (N : Nat) (hN : 5000 < N) (l : List Int) (hl : l.length ≤ 5000) (y : DCell) (k v : DValue) (s : List DValue) (hs : s.length ≤ 5000) : liftR (fun x st => weak_kept_b12 N (fun x => weak_Clean_c1_O N x l) y x st) (k, v) (none, s) = some (true, (none, s ++ (bif decide (k.N ∈ l) then [k, v] else []))) := by
  unfold liftR weak_kept_b12 weak_Clean_c1_O
  simp only [bs, contains_prog N hN l hl]
  cases decide (k.N ∈ l)
  · simp only [cf, List.append_nil]; rfl
  · simp only [ct]
    rw [rF (by simp; omega)]
    rfl
theorem kept_loop (N : Nat) (hN : 5000 < N) (l : List Int) (hl : l.length ≤ 5000) (y c : DCell) (hc : c.More.length ≤ 1000) (he : c.More.length % 2 = 0) : ∀ (m i : Nat) (s : List DValue), c.More.length < m + i → i ≤ c.More.length → i % 2 = 0 → s.length ≤ i → weak_entries_c1_l4 N (liftR (fun x st => weak_kept_b12 N (fun x => weak_Clean_c1_O N x l) y x st)) c m (i : Int) (none, s) = some (none, s ++ cleanL (fun x => decide (x ∈ l)) (c.More.drop i))
  | 0, i, s, h, h2, _, _ => by omega
  | m + 1, i, s, h, h2, h3, h4 => by
    rw [weak_entries_c1_l4_s, r64 (a := (i : Int) + 1) (by omega) (by omega)]
    by_cases hi : i < c.More.length
    · have hi1 : i + 1 < c.More.length := by omega
      have hl1 : getE c.More ((i : Int) + 1) = some c.More[i + 1] := by
        have := getE_n hi1
        simpa using this
      rw [lt_t (by omega), ct, getE_n hi, bs, r64 (a := (i : Int) + 1) (by omega) (by omega), hl1, bs, kept_body N hN l hl y _ _ s (by omega), bs]
      simp only [nt, cf]
      rw [r64 (by omega) (by omega)]
      have hlen : (s ++ (bif decide (c.More[i].N ∈ l) then [c.More[i], c.More[i + 1]] else [])).length ≤ i + 2 := by
        cases decide (c.More[i].N ∈ l) <;> simp <;> omega
      have := kept_loop N hN l hl y c hc he m (i + 2) _ (by omega) (by omega) (by omega) hlen
      simp only [Int.natCast_add, Int.cast_ofNat_Int] at this
      rw [this, List.drop_eq_getElem_cons hi, List.drop_eq_getElem_cons hi1, List.append_assoc]; rfl
    · rw [lt_f (by omega), cf, List.drop_eq_nil_of_le (by omega)]
      simp [cleanL]
theorem clean_prog (N : Nat) (hN : 5000 < N) (l : List Int) (hl : l.length ≤ 5000) (c : DCell) (hS : c.Slots.length ≤ 600) (hc : c.More.length ≤ 600) : weak_Clean_O N c l = some (bif isWM N c then cleanW N l c else zeroC) := by
  obtain ⟨-, h1, h2⟩ := is_ref N (by omega) c (by omega) (by omega)
  unfold weak_Clean_O weak_kept_O weak_entries_c1_O cleanW
  rw [h1, bs]
  cases hw : isWM N c
  · rfl
  · have e : weak_entries_O N c = some () := rfl
    have := kept_loop N hN l hl c c (by omega) (h2 hw) N 0 [] (by omega) (by omega) rfl (by simp)
    simp only [nt, cf, ct, e, bs, copy_spec N c ⟨hS, hc⟩]
    have h3 : weak_entries_c1_l4 N (liftR (fun x st => weak_kept_b12 N (fun x => weak_Clean_c1_O N x l) c x st)) c N 0 (none, []) = some (none, [] ++ cleanL (fun x => decide (x ∈ l)) (c.More.drop 0)) := this
    rw [h3, bs]
    rfl
theorem cleaned_prog (N : Nat) (hN : 5000 < N) (l : List Int) (hl : l.length ≤ 5000) (c : DCell) (hS : c.Slots.length ≤ 600) (hc : c.More.length ≤ 600) : reach_cleaned_O N c l = some (cleanW N l c) := by
  have h0 := clean_prog N hN l hl c hS hc
  unfold reach_cleaned_O
  rw [h0, right_eq N (by omega) c (by omega) (by omega)]
  unfold cleanW isWM
  obtain ⟨b, hb, -⟩ := right_tot N (by omega) c (by omega) (by omega)
  rw [hb]
  cases decide (c.Kind = 8) <;> cases b <;> rfl
theorem cleanW_len (N : Nat) (l : List Int) (c : DCell) : (cleanW N l c).Slots.length = c.Slots.length ∧ (cleanW N l c).More.length ≤ c.More.length := by
  unfold cleanW
  cases isWM N c
  · exact ⟨rfl, Nat.le_refl _⟩
  · exact ⟨rfl, cleanL_len _ _⟩
theorem cleanW_mem {N : Nat} {l : List Int} {c : DCell} {v : DValue} (h : v ∈ (cleanW N l c).Slots ++ (cleanW N l c).More) : v ∈ c.Slots ++ c.More := by
  unfold cleanW at h
  cases hw : isWM N c
  · rw [hw] at h; exact h
  · rw [hw] at h
    rcases List.mem_append.1 h with h | h
    · exact List.mem_append_left _ h
    · exact List.mem_append_right _ (cleanL_mem h)
/-- valid registries -/
def isFR (N : Nat) (c : DCell) : Bool := decide (c.Kind = 10) && (pantomimeref15_Right_O N c).getD false
def bareC (N : Nat) (c : DCell) : DCell := bif isFR N c then ⟨c.Kind, c.Shape, c.Flags, c.Age, c.Slots, c.More.take 1⟩ else c
theorem bareC_len (N : Nat) (c : DCell) : (bareC N c).Slots.length = c.Slots.length ∧ (bareC N c).More.length ≤ c.More.length := by
  unfold bareC
  cases isFR N c
  · exact ⟨rfl, Nat.le_refl _⟩
  · exact ⟨rfl, by show (c.More.take 1).length ≤ _; rw [List.length_take]; omega⟩
theorem bareC_mem {N : Nat} {c : DCell} {v : DValue} (h : v ∈ (bareC N c).Slots ++ (bareC N c).More) : v ∈ c.Slots ++ c.More := by
  unfold bareC at h
  cases hw : isFR N c
  · rw [hw] at h; exact h
  · rw [hw] at h
    rcases List.mem_append.1 h with h | h
    · exact List.mem_append_left _ h
    · exact List.mem_append_right _ (List.mem_of_mem_take h)
theorem bare_row (N : Nat) (hN : 5000 < N) (l : List DCell) (hl : l.length ≤ 1000) (hc : ∀ c ∈ l, c.Slots.length ≤ 600 ∧ c.More.length ≤ 600) : reach_bare_c1_O N l = some (l.map (bareC N)) := by
  apply Sat.eq
  unfold reach_bare_c1_O slices_Clone_97_O
  rw [rF (by simp; omega), bs, List.nil_append]
  refine loop_inv (fun k i (s : List DCell) => reach_bare_c1_l6 N l k s (i : Int)) l.length (fun i s => s = (l.take i).map (bareC N) ++ l.drop i) _ ?_ ?_ N 0 l (by omega) (by omega) (by simp)
  · rintro k i s hi h1 go
    show Sat (reach_bare_c1_l6 N l (k + 1) s (i : Int)) _
    have hci := hc l[i] (List.getElem_mem _)
    have hsl : s.length = l.length := by rw [h1]; simp; omega
    have hg : getE s (i : Int) = some l[i] := by
      have h2 : s[i]'(by omega) = l[i] := by
        subst h1
        rw [List.getElem_append_right (by simp; omega)]
        simp [Nat.min_eq_left (Nat.le_of_lt hi)]
      rw [getE_n (by omega), h2]
    have hset : ∀ d, s.set i d = (l.take i).map (bareC N) ++ d :: l.drop (i + 1) := fun d => by
      have hlen : ((l.take i).map (bareC N)).length = i := by rw [List.length_map, List.length_take]; omega
      rw [h1, List.set_append_right _ _ (by omega), hlen, Nat.sub_self, List.drop_eq_getElem_cons hi]; rfl
    have hnext : ∀ d, d = bareC N l[i] → (l.take i).map (bareC N) ++ d :: l.drop (i + 1) = (l.take (i + 1)).map (bareC N) ++ l.drop (i + 1) := fun d e => by
      rw [take_succ_get hi, e, List.map_append, List.append_assoc]; rfl
    rw [reach_bare_c1_l6_s, lt_t (by omega), ct, hg, bs, right_eq N (by omega) _ (by omega) (by omega)]
    obtain ⟨b, hb, hb2⟩ := right_tot N (by omega) l[i] (by omega) (by omega)
    rw [hb]
    unfold reach_bare_c1_j10
    rw [r64 (a := (i : Int) + 1) (by omega) (by omega)]
    have he : ((bif decide (l[i].Kind = 10) then ((some b).bind fun y17 => some y17) else some false) : Option Bool) = some (isFR N l[i]) := by
      unfold isFR; rw [hb]; cases decide (l[i].Kind = 10) <;> cases b <;> rfl
    rw [he, bs]
    cases hw : isFR N l[i]
    · rw [cf]
      refine go s ?_
      rw [← hnext l[i] (by unfold bareC; rw [hw]; rfl), h1, List.drop_eq_getElem_cons hi]
    · rw [ct]
      have hb1 : b = true ∧ l[i].Kind = 10 := by
        unfold isFR at hw; rw [hb] at hw
        cases b <;> simp at hw
        exact ⟨rfl, hw⟩
      have h1m := ((hb2 hb1.1).2 hb1.2).1
      rw [req_pos ⟨by omega, by omega, by show (1 : Int).toNat ≤ _; exact h1m⟩, bs, r64 (a := (i : Int) + 1) (by omega) (by omega), Int.toNat_natCast, hset]
      refine go _ (hnext _ ?_)
      unfold bareC; rw [hw]; rfl
  · rintro k s h1
    show Sat (reach_bare_c1_l6 N l (k + 1) s _) _
    rw [reach_bare_c1_l6_s, lt_f (by omega), cf]
    unfold reach_bare_c1_j4
    exact sat_some (by rw [h1]; simp)
def bareM (N : Nat) (m : DMemory) : DMemory := ⟨m.Young.map (bareC N), m.Old.map (bareC N)⟩
theorem Small.cell {m : DMemory} {roots : List DValue} (hs : Small m roots) {c : DCell} (h : c ∈ m.Young ++ m.Old) : c.Slots.length ≤ 600 ∧ c.More.length ≤ 600 := hs.cells c h
theorem bare_prog (N : Nat) (hN : 5000 < N) {m : DMemory} {roots : List DValue} (hs : Small m roots) : reach_bare_O N m = some (bareM N m) := by
  have h1 := hs.young
  have h2 := hs.old
  unfold reach_bare_O
  rw [bare_row N hN m.Young (by omega) fun c hc => hs.cell (List.mem_append_left _ hc), bs, bare_row N hN m.Old (by omega) fun c hc => hs.cell (List.mem_append_right _ hc), bs]; rfl
theorem cellAt_bare (N : Nat) (m : DMemory) (a : Int) : cellAt (bareM N m) a = (cellAt m a).map (bareC N) := by
  unfold cellAt bareM
  split
  · rfl
  · split <;> simp
theorem hasM_bare (N : Nat) (m : DMemory) : hasM (bareM N m) = hasM m := by
  funext a; unfold hasM; rw [cellAt_bare]; cases cellAt m a <;> rfl
theorem atM_bare (N : Nat) (m : DMemory) (a : Int) (h : hasM m a = true) : atM (bareM N m) a = bareC N (atM m a) := by
  unfold atM; rw [cellAt_bare]
  unfold hasM at h
  cases hc : cellAt m a with
  | none => rw [hc] at h; cases h
  | some c => rfl
theorem Small.bare {m : DMemory} {roots : List DValue} (hs : Small m roots) (N : Nat) : Small (bareM N m) roots := by
  refine ⟨by unfold bareM; simpa using hs.young, by unfold bareM; simpa using hs.old, hs.roots, fun c hc => ?_⟩
  unfold bareM at hc
  rw [← List.map_append] at hc
  obtain ⟨d, hd, rfl⟩ := List.mem_map.1 hc
  have h1 := hs.cell hd
  have h2 := bareC_len N d
  omega
theorem W64.bare {m : DMemory} (hw : W64 m) (N : Nat) : W64 (bareM N m) := fun c hc v hv => by
  unfold bareM at hc
  rw [← List.map_append] at hc
  obtain ⟨d, hd, rfl⟩ := List.mem_map.1 hc
  exact hw d hd v (bareC_mem hv)
end Go.Proofs.Ytmbaennilhdieaa
