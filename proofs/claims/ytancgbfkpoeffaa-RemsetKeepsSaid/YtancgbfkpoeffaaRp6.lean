/- Plain: Right and Renew of the remembered set; the laws RemsetRenews, RemsetKeeps and RemsetWide. -/
import Derived.Test.YtancgbfkpoeffaaRp5
import Derived.IntWalk
namespace Go.Proofs.Ytancgbfkpoeffaa
open Go.RowKit Go.ChangeShapes Go.WideShapes Go.Deep

theorem less_spec (N : Nat) (a b : Int) : cmp_Less_O N a b = some (decide (a < b)) := by
  unfold cmp_Less_O cmp_isNaN_O
  rw [bs, eq_t rfl, Bool.not_true, cond_false, bs, cond_false, bs]
theorem mid_spec {a b : Int} (h0 : 0 ≤ a) (h1 : a < b) (h2 : b ≤ 100000) : IntKind.i64.wrap ((IntKind.u64.wrap (a + b)).fdiv (2 ^ 1)) = (a + b) / 2 := by
  rw [IntWalk.u64_in _ ⟨by omega, by omega⟩, Int.fdiv_eq_ediv_of_nonneg _ (by omega), show (2 : Int) ^ 1 = 2 from rfl, IntWalk.i64_in _ ⟨by omega, by omega⟩]
theorem bsearch_spec (N : Nat) (hN : 5000 < N) (l : List Int) (x : Int) (hl : l.length ≤ 1000) (ha : l.Pairwise (· < ·)) : Sat (slices_BinarySearch_O N l x) fun r => r.2 = decide (x ∈ l) := by
  unfold slices_BinarySearch_O
  have hg := List.pairwise_iff_getElem.1 ha
  refine loop_dec (fun m (s : Int × Int) => slices_BinarySearch_l4 N x l m s.1 s.2) (fun s => (s.2 - s.1).toNat) (fun s => 0 ≤ s.1 ∧ s.1 ≤ s.2 ∧ s.2 ≤ l.length ∧ (∀ (j : Nat) (hj : j < l.length), (j : Int) < s.1 → l[j] < x) ∧ (∀ (j : Nat) (hj : j < l.length), s.2 ≤ (j : Int) → x ≤ l[j])) _ ?_ N (0, (l.length : Int)) (by show ((l.length : Int) - 0).toNat < N; omega) ⟨by omega, by show (0 : Int) ≤ l.length; omega, by show (l.length : Int) ≤ l.length; omega, fun j hj h => by have : (j : Int) < 0 := h; omega, fun j hj h => by have : (l.length : Int) ≤ j := h; omega⟩
  rintro m ⟨a, b⟩ ⟨h0, h1, h2, h3, h4⟩ k
  dsimp only at h0 h1 h2 h3 h4
  show Sat (slices_BinarySearch_l4 N x l (m + 1) a b) _
  rw [slices_BinarySearch_l4_s]
  refine sat_dec (fun hab => ?_) fun hab => ?_
  · have hm : ((a + b) / 2).toNat < l.length := by omega
    rw [r64 (by omega) (by omega), mid_spec h0 hab (by omega), getE_at (by omega) hm, bs, less_spec, bs]
    refine sat_dec (fun hlt => ?_) fun hlt => ?_
    · rw [r64 (by omega) (by omega)]
      refine k ((a + b) / 2 + 1, b) (by show (b - ((a + b) / 2 + 1)).toNat < (b - a).toNat; omega) ⟨by show 0 ≤ (a + b) / 2 + 1; omega, by show (a + b) / 2 + 1 ≤ b; omega, h2, fun j hj h => ?_, h4⟩
      have h : (j : Int) < (a + b) / 2 + 1 := h
      rcases Nat.lt_or_ge j ((a + b) / 2).toNat with h5 | h5
      · have := hg j _ hj hm h5; omega
      · have e : j = ((a + b) / 2).toNat := by omega
        subst e; exact hlt
    · refine k (a, (a + b) / 2) (by show ((a + b) / 2 - a).toNat < (b - a).toNat; omega) ⟨h0, by show a ≤ (a + b) / 2; omega, by show (a + b) / 2 ≤ l.length; omega, h3, fun j hj h => ?_⟩
      have h : (a + b) / 2 ≤ (j : Int) := h
      rcases Nat.lt_or_ge ((a + b) / 2).toNat j with h5 | h5
      · have := hg _ j hm hj h5; omega
      · have e : j = ((a + b) / 2).toNat := by omega
        subst e; omega
  · obtain rfl : a = b := by omega
    unfold slices_BinarySearch_j2 slices_isNaN_O
    by_cases hlt : a < l.length
    · have ht : a.toNat < l.length := by omega
      rw [lt_t hlt, cond_true, getE_at h0 ht, bs]
      by_cases he : l[a.toNat] = x
      · rw [eq_t he, cond_true, bs, bs]
        exact sat_some (Eq.symm (decide_eq_true (he ▸ List.getElem_mem ht)))
      · rw [eq_f he, cond_false, bs, bs, eq_t rfl, Bool.not_true, cond_false, bs, bs, bs]
        refine sat_some (Eq.symm (decide_eq_false fun hx => ?_))
        obtain ⟨j, hj, rfl⟩ := List.mem_iff_getElem.1 hx
        rcases Nat.lt_trichotomy j a.toNat with h5 | h5 | h5
        · have := h3 j hj (by omega); omega
        · subst h5; exact he rfl
        · have h6 := hg _ _ ht hj h5
          have := h4 a.toNat ht (by omega); omega
    · rw [lt_f (by omega), cond_false, bs]
      refine sat_some (Eq.symm (decide_eq_false fun hx => ?_))
      obtain ⟨j, hj, rfl⟩ := List.mem_iff_getElem.1 hx
      have := h3 j hj (by omega); omega
/-! Right -/
def okAt (n : Nat) (l : List Int) (i : Nat) (hi : i < l.length) : Prop := oldP l[i] ∧ l[i].tdiv 2 ≤ n ∧ (∀ _ : 0 < i, l[i - 1] < l[i])
def okL (n : Nat) (l : List Int) : Prop := (∀ x ∈ l, oldP x ∧ x.tdiv 2 ≤ n) ∧ l.Pairwise (· < ·)
theorem okL_at {n : Nat} {l : List Int} (h : okL n l) {i : Nat} (hi : i < l.length) : okAt n l i hi :=
  ⟨(h.1 _ (List.getElem_mem hi)).1, (h.1 _ (List.getElem_mem hi)).2, fun h0 => List.pairwise_iff_getElem.1 h.2 _ _ (by omega) hi (by omega)⟩
theorem okL_step {n : Nat} {l : List Int} {i : Nat} (h : okL n (l.take i)) (hi : i < l.length) (ha : okAt n l i hi) : okL n (l.take (i + 1)) := by
  rw [take_succ_get hi]
  refine ⟨fun x hx => ?_, List.pairwise_append.2 ⟨h.2, by simp, fun x hx y hy => ?_⟩⟩
  · rcases List.mem_append.1 hx with h1 | h1
    · exact h.1 x h1
    · rw [List.mem_singleton] at h1; subst h1; exact ⟨ha.1, ha.2.1⟩
  · rw [List.mem_singleton] at hy; subst hy
    obtain ⟨j, hj, rfl⟩ := List.mem_iff_getElem.1 hx
    have hj' : j < i := by rw [List.length_take] at hj; omega
    have h2 := ha.2.2 (by omega)
    rcases Nat.lt_or_ge j (i - 1) with h3 | h3
    · have h4 := List.pairwise_iff_getElem.1 h.2 j (i - 1) hj (by rw [List.length_take]; omega) h3
      rw [List.getElem_take, List.getElem_take] at h4
      rw [List.getElem_take]; omega
    · have e : j = i - 1 := by omega
      subst e; rw [List.getElem_take]; exact h2
theorem half_in64 {x : Int} (h : in64 x) (h0 : 0 < x) : in64 (x.tdiv 2) := by
  unfold in64 at *
  rw [Int.tdiv_eq_ediv_of_nonneg (by omega)]; omega
def mustP (m : DMemory) (l : List Int) : Prop := ∀ x ∈ renewL 0 m.Old, x ∈ l
theorem right_spec (N : Nat) (hN : 5000 < N) (m : DMemory) (hm : SmallL m.Old) (l : List Int) (hl : l.length ≤ 1000) (hi : ∀ x ∈ l, in64 x) : Sat (remset_Right_O N m l) fun b => b = true ↔ okL m.Old.length l ∧ mustP m l := by
  have h60 := hm.1
  unfold remset_Right_O
  refine loop_inv0 (fun k i => remset_Right_l6 N l m k (i : Int)) l.length (fun i => okL m.Old.length (l.take i)) _ ?_ ?_ N 0 (by omega) (by omega) ⟨by simp, by simp⟩
  · intro k i hi' h1 g
    show Sat (remset_Right_l6 N l m (k + 1) i) _
    rw [remset_Right_l6_s, lt_t (by omega), cond_true, getE_n hi', bs, old_spec, bs]
    by_cases ho : oldP l[i]
    · rw [decide_eq_true ho.1, decide_eq_true ho.2, Bool.and_self, Bool.not_true, cond_false, req_t (half_in64 (hi _ (List.getElem_mem hi')) ho.1), bs]
      by_cases h2 : (m.Old.length : Int) < l[i].tdiv 2
      · rw [lt_t h2, cond_true, bs, cond_true]
        exact sat_some (by constructor; (intro h; cases h); (intro h; have := (okL_at h.1 hi').2.1; omega))
      · rw [lt_f (by omega), cond_false]
        by_cases h3 : 0 < i
        · have e : getE l ((i : Int) - 1) = some l[i - 1] := by
            rw [show (i : Int) - 1 = ((i - 1 : Nat) : Int) by omega, getE_n (by omega)]
          rw [lt_t (by omega), cond_true, r64 (by omega) (by omega), e, bs, bs, bs]
          refine sat_dec (fun h4 => ?_) fun h4 => ?_
          · exact sat_some (by constructor; (intro h; cases h); (intro h; have := (okL_at h.1 hi').2.2 h3; omega))
          · rw [r64 (by omega) (by omega)]
            exact g (okL_step h1 hi' ⟨ho, by omega, fun _ => by omega⟩)
        · rw [lt_f (by omega), cond_false, bs, bs, cond_false, r64 (by omega) (by omega)]
          exact g (okL_step h1 hi' ⟨ho, by omega, fun h => absurd h h3⟩)
    · have e : (decide (0 < l[i]) && decide (l[i].tmod 2 = 0)) = false := by rw [← Bool.decide_and]; exact decide_eq_false ho
      rw [e, Bool.not_false, cond_true, bs, cond_true, bs, cond_true]
      exact sat_some (by constructor; (intro h; cases h); (intro h; exact absurd (okL_at h.1 hi').1 ho))
  · intro k h1
    show Sat (remset_Right_l6 N l m (k + 1) _) _
    rw [remset_Right_l6_s, lt_f (by omega), cond_false]
    rw [List.take_length] at h1
    unfold remset_Right_j5
    refine loop_inv0 (fun k i => remset_Right_l20 N m l k (i : Int)) m.Old.length (fun i => ∀ x ∈ renewL 0 (m.Old.take i), x ∈ l) _ ?_ ?_ N 0 (by omega) (by omega) (by simp [renewL])
    · intro k i hi' h2 g
      show Sat (remset_Right_l20 N m l (k + 1) i) _
      obtain ⟨hS, hM⟩ := hm.2 _ (List.getElem_mem hi')
      have e : renewL 0 (m.Old.take (i + 1)) = renewL 0 (m.Old.take i) ++ (bif youngS m.Old[i] then [2 * (i : Int) + 2] else []) := by
        rw [take_succ_get hi', renewL_app, renewL_cons]
        simp [renewL, List.length_take, Nat.min_eq_left (Nat.le_of_lt hi')]
      rw [remset_Right_l20_s, lt_t (by omega), cond_true, getE_n hi', bs, r64 (by omega) (by omega), r64 (by omega) (by omega)]
      refine (bsearch_spec N hN l _ hl h1.2).bind fun r hr => ?_
      rw [hr, leads_spec N hN _ hS hM]
      by_cases hin : 2 * (i : Int) + 2 ∈ l
      · rw [decide_eq_true hin, Bool.not_true, cond_false, bs, cond_false, r64 (by omega) (by omega)]
        refine g fun x hx => ?_
        rw [e] at hx
        rcases List.mem_append.1 hx with h3 | h3
        · exact h2 x h3
        · cases hy : youngS m.Old[i] <;> rw [hy] at h3
          · cases h3
          · simp only [cond_true, List.mem_singleton] at h3; rw [h3]; exact hin
      · rw [decide_eq_false hin, Bool.not_false, cond_true, bs, bs]
        cases hy : youngS m.Old[i]
        · rw [cond_false, r64 (by omega) (by omega)]
          refine g fun x hx => ?_
          rw [e, hy, cond_false, List.append_nil] at hx
          exact h2 x hx
        · rw [cond_true]
          exact sat_some (by constructor; (intro h; cases h); (intro h; exact absurd (h.2 (2 * (i : Int) + 2) ((renewL_mem _ _ _).2 ⟨i, m.Old[i], List.getElem?_eq_getElem hi', hy, by rw [Nat.zero_add]⟩)) hin))
    · intro k h2
      show Sat (remset_Right_l20 N m l (k + 1) _) _
      rw [remset_Right_l20_s, lt_f (by omega), cond_false]
      rw [List.take_length] at h2
      exact sat_some ⟨fun _ => ⟨h1, h2⟩, fun _ => rfl⟩
theorem among_spec (N : Nat) (hN : 5000 < N) (l : List Int) (x : Int) (hl : l.length ≤ 1000) : pantomimeref21_among_O N l x = some (decide (x ∈ l)) := by
  apply Sat.eq
  refine loop_inv0 (fun k i => pantomimeref21_among_l3 N x l k (i : Int)) l.length (fun i => x ∉ l.take i) _ ?_ ?_ N 0 (by omega) (by omega) (by simp)
  · intro k i hi h1 g
    show Sat (pantomimeref21_among_l3 N x l (k + 1) i) _
    rw [pantomimeref21_among_l3_s, lt_t (by omega), cond_true, getE_n hi, bs]
    refine sat_dec (fun h => ?_) fun h => ?_
    · exact sat_some (Eq.symm (decide_eq_true (h ▸ List.getElem_mem hi)))
    · rw [r64 (by omega) (by omega)]
      refine g ?_
      rw [take_succ_get hi, List.mem_append, List.mem_singleton]
      rintro (h2 | h2)
      · exact h1 h2
      · exact h h2.symm
  · intro k h1
    show Sat (pantomimeref21_among_l3 N x l (k + 1) _) _
    rw [pantomimeref21_among_l3_s, lt_f (by omega), cond_false]
    rw [List.take_length] at h1
    exact sat_some (Eq.symm (decide_eq_false h1))
theorem ref_right_spec (N : Nat) (hN : 5000 < N) (m : DMemory) (hm : SmallL m.Old) (l : List Int) (hl : l.length ≤ 1000) (hi : ∀ x ∈ l, in64 x) : Sat (pantomimeref21_Right_O N m l) fun b => b = true ↔ okL m.Old.length l ∧ mustP m l := by
  have h60 := hm.1
  unfold pantomimeref21_Right_O
  refine loop_inv0 (fun k i => pantomimeref21_Right_l6 N l m k (i : Int)) l.length (fun i => okL m.Old.length (l.take i)) _ ?_ ?_ N 0 (by omega) (by omega) ⟨by simp, by simp⟩
  · intro k i hi' h1 g
    show Sat (pantomimeref21_Right_l6 N l m (k + 1) i) _
    rw [pantomimeref21_Right_l6_s, lt_t (by omega), cond_true, getE_n hi', bs, ref_old_spec, bs, bs]
    by_cases ho : oldP l[i]
    · rw [decide_eq_true ho.1, decide_eq_true ho.2, Bool.and_self, Bool.not_true, cond_false, req_t (half_in64 (hi _ (List.getElem_mem hi')) ho.1), bs]
      by_cases h2 : (m.Old.length : Int) < l[i].tdiv 2
      · rw [lt_t h2, cond_true, bs, cond_true]
        exact sat_some (by constructor; (intro h; cases h); (intro h; have := (okL_at h.1 hi').2.1; omega))
      · rw [lt_f (by omega), cond_false]
        by_cases h3 : 0 < i
        · have e : getE l ((i : Int) - 1) = some l[i - 1] := by
            rw [show (i : Int) - 1 = ((i - 1 : Nat) : Int) by omega, getE_n (by omega)]
          rw [lt_t (by omega), cond_true, bs, r64 (by omega) (by omega), e, bs, bs, bs]
          refine sat_dec (fun h4 => ?_) fun h4 => ?_
          · exact sat_some (by constructor; (intro h; cases h); (intro h; have := (okL_at h.1 hi').2.2 h3; omega))
          · rw [r64 (by omega) (by omega)]
            exact g (okL_step h1 hi' ⟨ho, by omega, fun _ => by omega⟩)
        · rw [lt_f (by omega), cond_false, bs, bs, cond_false, r64 (by omega) (by omega)]
          exact g (okL_step h1 hi' ⟨ho, by omega, fun h => absurd h h3⟩)
    · have e : (decide (0 < l[i]) && decide (l[i].tmod 2 = 0)) = false := by rw [← Bool.decide_and]; exact decide_eq_false ho
      rw [e, Bool.not_false, cond_true, bs, cond_true, bs, cond_true]
      exact sat_some (by constructor; (intro h; cases h); (intro h; exact absurd (okL_at h.1 hi').1 ho))
  · intro k h1
    show Sat (pantomimeref21_Right_l6 N l m (k + 1) _) _
    rw [pantomimeref21_Right_l6_s, lt_f (by omega), cond_false]
    rw [List.take_length] at h1
    unfold pantomimeref21_Right_j5
    rw [ref_renew_spec N hN m hm, bs]
    have hr := renewL_len 0 m.Old
    refine loop_inv0 (fun k i => pantomimeref21_Right_l24 N l (renewL 0 m.Old) k (i : Int)) (renewL 0 m.Old).length (fun i => ∀ x ∈ (renewL 0 m.Old).take i, x ∈ l) _ ?_ ?_ N 0 (by omega) (by omega) (by simp)
    · intro k i hi' h2 g
      show Sat (pantomimeref21_Right_l24 N l (renewL 0 m.Old) (k + 1) i) _
      rw [pantomimeref21_Right_l24_s, lt_t (by omega), cond_true, getE_n hi', bs, among_spec N hN _ _ hl, bs]
      by_cases hin : (renewL 0 m.Old)[i] ∈ l
      · rw [decide_eq_true hin, Bool.not_true, cond_false, r64 (by omega) (by omega)]
        refine g fun x hx => ?_
        rw [take_succ_get hi'] at hx
        rcases List.mem_append.1 hx with h3 | h3
        · exact h2 x h3
        · rw [List.mem_singleton] at h3; rw [h3]; exact hin
      · rw [decide_eq_false hin]
        exact sat_some (by constructor; (intro h; cases h); (intro h; exact absurd (h.2 _ (List.getElem_mem hi')) hin))
    · intro k h2
      show Sat (pantomimeref21_Right_l24 N l (renewL 0 m.Old) (k + 1) _) _
      rw [pantomimeref21_Right_l24_s, lt_f (by omega), cond_false]
      rw [List.take_length] at h2
      exact sat_some ⟨fun _ => ⟨h1, h2⟩, fun _ => rfl⟩
/-! Renew -/
theorem renewL_snoc {m : DMemory} {i : Nat} (hi : i < m.Old.length) (x : Int) : x ∈ renewL 0 (m.Old.take (i + 1)) ↔ x ∈ renewL 0 (m.Old.take i) ∨ (x = 2 * (i : Int) + 2 ∧ youngS m.Old[i] = true) := by
  rw [take_succ_get hi, renewL_app, renewL_cons, List.mem_append]
  simp only [renewL, List.append_nil, List.length_take, Nat.min_eq_left (Nat.le_of_lt hi), Nat.zero_add]
  cases youngS m.Old[i] <;> simp
theorem renewL_bound {i : Nat} {l : List DCell} {x : Int} (h : x ∈ renewL i l) : x ≤ 2 * ((i + l.length : Nat) : Int) ∧ 0 < x ∧ x.tmod 2 = 0 := by
  obtain ⟨j, c, h1, -, h3⟩ := (renewL_mem _ _ _).1 h
  have := (List.getElem?_eq_some_iff.1 h1).1
  exact ⟨by omega, by omega, by rw [Int.tmod_eq_emod_of_nonneg (by omega)]; omega⟩
theorem SetS.round {kv : List (Int × Bool)} {m : DMemory} {i n : Nat} (hi : i < m.Old.length) (h : SetS kv (· ∈ renewL 0 (m.Old.take i)) n) (N : Nat) (hN : 5000 < N) (hm : SmallL m.Old) : ∃ b kv', remset_Set_Note_O N ⟨kv⟩ (2 * (i : Int) + 2) m.Old[i] = some (b, ⟨kv'⟩) ∧ b = youngS m.Old[i] ∧ SetS kv' (· ∈ renewL 0 (m.Old.take (i + 1))) (n + 1) := by
  obtain ⟨hS, hM⟩ := hm.2 _ (List.getElem_mem hi)
  have h60 := hm.1
  have ho : oldP (2 * (i : Int) + 2) := ⟨by omega, by rw [Int.tmod_eq_emod_of_nonneg (by omega)]; omega⟩
  obtain ⟨b, kv', h1, h2, h3⟩ := h.note N hN (a := 2 * (i : Int) + 2) ⟨by omega, by omega⟩ hS hM
  refine ⟨b, kv', h1, ?_, h3.congr fun x => ?_⟩
  · cases hy : youngS m.Old[i]
    · rw [hy] at h2; cases b
      · rfl
      · exact absurd (h2.1 rfl).2 (by decide)
    · exact h2.2 ⟨ho, hy⟩
  · rw [renewL_snoc hi]
    constructor
    · rintro (⟨h4, -⟩ | ⟨h4, -, h5⟩)
      · exact .inl h4
      · exact .inr ⟨h4, h5⟩
    · rintro (h4 | ⟨h4, h5⟩)
      · refine .inl ⟨h4, fun e => ?_⟩
        have := (renewL_bound h4).1
        rw [List.length_take] at this
        omega
      · exact .inr ⟨h4, ho, h5⟩
theorem renew_spec (N : Nat) (hN : 5000 < N) (m : DMemory) (hm : SmallL m.Old) (s : DSet) : Sat (remset_Set_Renew_O N s m) fun t => SetS t.at_ (· ∈ renewL 0 m.Old) 60 := by
  have h60 := hm.1
  unfold remset_Set_Renew_O remset_Set_Clear_O
  rw [bs]
  refine loop_inv (fun k i kv => remset_Set_Renew_l8 N m k (i : Int) kv) m.Old.length (fun i kv => SetS kv (· ∈ renewL 0 (m.Old.take i)) i) _ ?_ ?_ N 0 [] (by omega) (by omega) (SetS.nil.congr fun x => by simp [renewL])
  · intro k i kv hi h g
    show Sat (remset_Set_Renew_l8 N m (k + 1) i kv) _
    obtain ⟨b, kv', g1, -, g2⟩ := h.round hi N hN hm
    rw [remset_Set_Renew_l8_s, lt_t (by omega), cond_true, getE_n hi, bs, r64 (by omega) (by omega), r64 (by omega) (by omega), g1, bs, r64 (by omega) (by omega)]
    exact g kv' g2
  · intro k kv h
    show Sat (remset_Set_Renew_l8 N m (k + 1) _ kv) _
    rw [remset_Set_Renew_l8_s, lt_f (by omega), cond_false]
    rw [List.take_length] at h
    exact sat_some ⟨h.nd, Nat.le_trans h.len (by omega), h.mem, h.i64⟩
theorem SetS.renewed {kv : List (Int × Bool)} {m : DMemory} {n : Nat} (h : SetS kv (· ∈ renewL 0 m.Old) n) (hn : n ≤ 1000) (N : Nat) : remset_Set_List_O N ⟨kv⟩ = some (renewL 0 m.Old) := by
  rw [h.list hn, (h.keys (renewL_asc 0 m.Old) fun x => Iff.rfl).1]
theorem okL_renew (m : DMemory) : okL m.Old.length (renewL 0 m.Old) := ⟨fun x hx => by
  obtain ⟨h1, h2, h3⟩ := renewL_bound hx
  exact ⟨⟨h2, h3⟩, by rw [Int.tdiv_eq_ediv_of_nonneg (by omega)]; omega⟩, renewL_asc 0 _⟩
theorem renew_in64 {m : DMemory} (hm : SmallL m.Old) {x : Int} (hx : x ∈ renewL 0 m.Old) : in64 x := by
  have := renewL_bound hx; have := hm.1
  exact ⟨by omega, by omega⟩
theorem iff_eq {a b : Bool} {p : Prop} (h1 : a = true ↔ p) (h2 : b = true ↔ p) : a = b := by
  cases a <;> cases b <;> first | rfl | (exfalso; simp at h1 h2; exact h1 h2) | (exfalso; simp at h1 h2; exact h2 h1)
theorem few_old (N : Nat) (hN : 5000 < N) (l : List DCell) : Sat (pantomimelaw21_few_O N l) fun b => b = true → SmallL l := few_spec N (by omega) l
theorem renews_spec (N : Nat) (hN : 5000 < N) (m : DMemory) (l : List Int) (a : Int) (c : DCell) (hl : ∀ x ∈ l, in64 x) (ha : in64 a) : pantomimelaw21_RemsetRenews_O N m l a c = some true := by
  apply Sat.eq
  unfold pantomimelaw21_RemsetRenews_O remset_New_O
  refine (few_old N hN m.Young).bind fun b1 _ => ?_
  obtain ⟨b2, e2, h2⟩ := few_old N hN m.Old
  obtain ⟨b3, e3, h3⟩ := few_old N hN [c]
  rw [e2, e3, lives_spec N hN]
  simp only [bs]
  cases b1
  · simp only [nf, ct, bs]; exact sat_some rfl
  cases b2
  · simp only [nf, nt, cf, ct, bs]; exact sat_some rfl
  cases b3
  · simp only [nf, nt, cf, ct, bs]; exact sat_some rfl
  simp only [nt, cf, bs]
  refine sat_dec (fun _ => sat_some rfl) fun h200 => ?_
  have hm := h2 rfl
  obtain ⟨hS, hM⟩ := (h3 rfl).2 c (by simp)
  obtain ⟨b, kv', g1, -, g2⟩ := SetS.nil.note N hN ha hS hM
  rw [g1, bs]
  refine (renew_spec N hN m hm _).bind fun t ht => ?_
  rw [show t = ⟨t.at_⟩ from rfl, ht.renewed (by omega), bs, ref_renew_spec N hN m hm, bs, same_spec N hN _ _ (by have := renewL_len 0 m.Old; have := hm.1; omega), bs, decide_eq_true rfl, cond_true, bs]
  obtain ⟨q1, e4, h4⟩ := right_spec N hN m hm l (by omega) hl
  obtain ⟨q2, e5, h5⟩ := ref_right_spec N hN m hm l (by omega) hl
  obtain ⟨q3, e6, h6⟩ := right_spec N hN m hm (renewL 0 m.Old) (by have := renewL_len 0 m.Old; have := hm.1; omega) fun x hx => renew_in64 hm hx
  have e7 : q3 = true := h6.2 ⟨okL_renew m, fun x hx => hx⟩
  have e8 : q1 = q2 := iff_eq h4 h5
  rw [e4, e5, e6, bs, bs, bs, bs, e7, e8, beq_self_eq_true, cond_true, bs, cond_true, bs]
  exact sat_some rfl
theorem wf_old {m : DMemory} (_ : wfDMemory m) : True := trivial
theorem tm_in {a : Int} {n : Nat} (hn : 0 < n) : -(n : Int) < a.tmod n ∧ a.tmod n < n := by
  have h1 := Int.tmod_lt_of_pos a (b := (n : Int)) (by omega)
  have h2 := Int.lt_tmod_of_pos a (b := (n : Int)) (by omega)
  omega
theorem keeps_end (N : Nat) (hN : 5000 < N) (m : DMemory) (hm : SmallL m.Old) (out : Int) (kv : List (Int × Bool)) (h : SetS kv (· ∈ renewL 0 m.Old) 60) (s : DSet) : Sat (pantomimelaw21_RemsetKeeps_j15 N out m s kv) (· = true) := by
  have h60 := hm.1
  have hrl := renewL_len 0 m.Old
  unfold pantomimelaw21_RemsetKeeps_j15
  refine (renew_spec N hN m hm _).bind fun t ht => ?_
  rw [show t = ⟨t.at_⟩ from rfl, h.renewed (by omega), bs, ht.renewed (by omega), bs, same_spec N hN _ _ (by omega), bs, decide_eq_true rfl, Bool.not_true, cond_false, bs, bs]
  have hasc := renewL_asc 0 m.Old
  have hok := okL_renew m
  have h64 : ∀ x ∈ renewL 0 m.Old, in64 x := fun x hx => renew_in64 hm hx
  have hmust : ∀ less : List Int, mustP m less ↔ ∀ x ∈ renewL 0 m.Old, x ∈ less := fun _ => Iff.rfl
  have hwhole := right_spec N hN m hm (renewL 0 m.Old) (by omega) h64
  generalize renewL 0 m.Old = l at *
  refine sat_dec (fun h0 => ?_) fun h0 => ?_
  · rw [same_spec N hN _ _ (by omega), bs, decide_eq_true rfl, cond_true, lives_spec N hN, bs, bs]; exact sat_some rfl
  · have hlen : 0 < l.length := by omega
    have t1 := tm_in (a := out) hlen
    have t2 := tm_in (a := out.tmod l.length + l.length) hlen
    have t3 : 0 ≤ (out.tmod l.length + l.length).tmod l.length := Int.tmod_nonneg _ (by omega)
    rw [req_t (by omega), r64 (by omega) (by omega), req_t (by omega)]
    generalize (out.tmod l.length + l.length).tmod l.length = k at *
    rw [req_t ⟨by omega, by omega, by omega⟩, r64 (by omega) (by omega), req_t ⟨by omega, by omega, by omega⟩, rF (by simp; omega), rF (by simp; omega)]
    have eless : ([] ++ (l.drop 0).take (k.toNat - 0)) ++ (l.drop ((k + 1).toNat)).take (l.length - (k + 1).toNat) = l.take k.toNat ++ l.drop (k.toNat + 1) := by
      rw [List.nil_append, List.drop_zero, Nat.sub_zero, show (k + 1).toNat = k.toNat + 1 by omega, List.take_of_length_le (l := l.drop (k.toNat + 1)) (by rw [List.length_drop]; omega)]
    rw [eless]
    have hk : k.toNat < l.length := by omega
    obtain ⟨q, e, hq⟩ := right_spec N hN m hm (l.take k.toNat ++ l.drop (k.toNat + 1)) (by rw [List.length_append, List.length_take, List.length_drop]; omega) fun x hx => by
      rcases List.mem_append.1 hx with h1 | h1
      · exact h64 x (List.mem_of_mem_take h1)
      · exact h64 x (List.mem_of_mem_drop h1)
    have eq : q = false := by
      cases q
      · rfl
      · have h1 := (hmust _).1 (hq.1 rfl).2 l[k.toNat] (List.getElem_mem hk)
        have hg := List.pairwise_iff_getElem.1 hasc
        rcases List.mem_append.1 h1 with h1 | h1
        · obtain ⟨j, hj, e1⟩ := List.mem_iff_getElem.1 h1
          rw [List.length_take] at hj
          rw [List.getElem_take] at e1
          have := hg j k.toNat (by omega) hk (by omega); omega
        · obtain ⟨j, hj, e1⟩ := List.mem_iff_getElem.1 h1
          rw [List.length_drop] at hj
          rw [List.getElem_drop] at e1
          have := hg k.toNat (k.toNat + 1 + j) hk (by omega) (by omega); omega
    obtain ⟨q2, e2, hq2⟩ := hwhole
    have eq2 : q2 = true := hq2.2 ⟨hok, (hmust _).2 fun x hx => hx⟩
    rw [e, bs, eq, e2, bs, eq2, Bool.not_false, cond_true, bs, cond_true, lives_spec N hN, bs, bs]
    exact sat_some rfl
theorem keeps_spec (N : Nat) (hN : 5000 < N) (m : DMemory) (out : Int) : pantomimelaw21_RemsetKeeps_O N m out = some true := by
  apply Sat.eq
  unfold pantomimelaw21_RemsetKeeps_O remset_New_O
  refine (few_old N hN m.Young).bind fun b1 _ => ?_
  obtain ⟨b2, e2, h2⟩ := few_old N hN m.Old
  rw [e2, lives_spec N hN]
  simp only [bs]
  cases b1
  · simp only [nf, ct, bs]; exact sat_some rfl
  cases b2
  · simp only [nf, nt, cf, ct, bs]; exact sat_some rfl
  simp only [nt, cf, bs]
  have hm := h2 rfl
  have h60 := hm.1
  refine loop_inv (fun k i kv => pantomimelaw21_RemsetKeeps_l17 N out m ⟨[]⟩ k (i : Int) kv) m.Old.length (fun i kv => SetS kv (· ∈ renewL 0 (m.Old.take i)) i) _ ?_ ?_ N 0 [] (by omega) (by omega) (SetS.nil.congr fun x => by simp [renewL])
  · intro k i kv hi h g
    show Sat (pantomimelaw21_RemsetKeeps_l17 N out m ⟨[]⟩ (k + 1) i kv) _
    obtain ⟨hS, hM⟩ := hm.2 _ (List.getElem_mem hi)
    obtain ⟨b, kv', g1, g3, g2⟩ := h.round hi N hN hm
    rw [pantomimelaw21_RemsetKeeps_l17_s, lt_t (by omega), cond_true, r64 (by omega) (by omega), r64 (by omega) (by omega), getE_n hi, bs, bs, g1, bs, young_spec N hN _ hS hM, bs, g3, beq_self_eq_true, Bool.not_true, cond_false, r64 (by omega) (by omega)]
    exact g kv' g2
  · intro k kv h
    show Sat (pantomimelaw21_RemsetKeeps_l17 N out m ⟨[]⟩ (k + 1) _ kv) _
    rw [pantomimelaw21_RemsetKeeps_l17_s, lt_f (by omega), cond_false]
    rw [List.take_length] at h
    exact keeps_end N hN m hm out kv ⟨h.nd, by have := h.len; omega, h.mem, h.i64⟩ _
/-! RemsetWide -/
theorem wide_end (N : Nat) (hN : 5000 < N) (m : DMemory) (hm : SmallL m.Old) (lack : Int) (wide : List Int) (hw : okL m.Old.length wide) (hw60 : wide.length ≤ 60) (h64 : ∀ x ∈ wide, in64 x) (hin : mustP m wide) : Sat (pantomimelaw21_RemsetWide_j18 N lack (renewL 0 m.Old) m wide) (· = true) := by
  have h60 := hm.1
  have hrl := renewL_len 0 m.Old
  obtain ⟨q, e, hq⟩ := right_spec N hN m hm wide (by omega) h64
  have eq : q = true := hq.2 ⟨hw, hin⟩
  unfold pantomimelaw21_RemsetWide_j18
  refine sat_dec (fun h0 => ?_) fun h0 => ?_
  · rw [e, bs, eq, cond_true, lives_spec N hN, bs, bs]; exact sat_some rfl
  · have hpos : 0 < (renewL 0 m.Old).length := by omega
    rw [IntWalk.u64_in ((renewL 0 m.Old).length : Int) ⟨by omega, by omega⟩, req_t (by omega)]
    have hu : 0 ≤ IntKind.u64.wrap lack := by rw [IntKind.wrap_u64]; omega
    have t1 := tm_in (a := IntKind.u64.wrap lack) hpos
    have t2 : 0 ≤ (IntKind.u64.wrap lack).tmod ((renewL 0 m.Old).length : Int) := Int.tmod_nonneg _ hu
    refine sat_getE t2 t1.2 fun gone hg => ?_
    have hgm : gone ∈ renewL 0 m.Old := List.mem_of_getElem? hg
    refine loop_inv (fun k i s => pantomimelaw21_RemsetWide_l56 N gone wide m k s (i : Int)) wide.length (fun i s => s = (wide.take i).filter (fun x => decide (x ≠ gone)) ∧ s.length ≤ i) _ ?_ ?_ N 0 [] (by omega) (by omega) ⟨by simp, by simp⟩
    · rintro k i s hi ⟨h1, h2⟩ g
      show Sat (pantomimelaw21_RemsetWide_l56 N gone wide m (k + 1) s i) _
      rw [pantomimelaw21_RemsetWide_l56_s, lt_t (by omega), cond_true, getE_n hi]
      simp only [bs]
      unfold pantomimelaw21_RemsetWide_j61
      refine sat_not (fun h => ?_) fun h => ?_
      · have h := of_decide_eq_false h
        rw [rF (by simp; omega), r64 (by omega) (by omega)]
        exact g _ ⟨by rw [take_succ_get hi, List.filter_append, h1]; simp [h], by simp; omega⟩
      · have h := of_decide_eq_true h
        rw [r64 (by omega) (by omega)]
        exact g _ ⟨by rw [take_succ_get hi, List.filter_append, h1]; simp [h], by omega⟩
    · rintro k s ⟨h1, h2⟩
      show Sat (pantomimelaw21_RemsetWide_l56 N gone wide m (k + 1) s _) _
      rw [pantomimelaw21_RemsetWide_l56_s, lt_f (by omega), cond_false]
      rw [List.take_length] at h1
      obtain ⟨q2, e2, hq2⟩ := right_spec N hN m hm s (by omega) fun x hx => by rw [h1] at hx; exact h64 x (List.mem_filter.1 hx).1
      have eq2 : q2 = false := by
        cases q2
        · rfl
        · have := (hq2.1 rfl).2 gone hgm
          rw [h1] at this
          exact absurd rfl (of_decide_eq_true (List.mem_filter.1 this).2)
      unfold pantomimelaw21_RemsetWide_j54
      rw [e, bs, eq, e2, cond_true, bs, eq2, Bool.not_false, bs, cond_true, lives_spec N hN, bs, bs]
      exact sat_some rfl
theorem wide_spec (N : Nat) (hN : 5000 < N) (m : DMemory) (more : List Bool) (lack : Int) : pantomimelaw21_RemsetWide_O N m more lack = some true := by
  apply Sat.eq
  unfold pantomimelaw21_RemsetWide_O remset_New_O
  refine (few_old N hN m.Young).bind fun b1 _ => ?_
  obtain ⟨b2, e2, h2⟩ := few_old N hN m.Old
  rw [e2, lives_spec N hN]
  simp only [bs]
  cases b1
  · simp only [nf, ct, bs]; exact sat_some rfl
  cases b2
  · simp only [nf, nt, cf, ct, bs]; exact sat_some rfl
  simp only [nt, cf, bs]
  refine sat_dec (fun _ => sat_some rfl) fun hmore => ?_
  have hm := h2 rfl
  have h60 := hm.1
  refine (renew_spec N hN m hm _).bind fun t ht => ?_
  rw [show t = ⟨t.at_⟩ from rfl, ht.renewed (by omega), bs]
  have hrl := renewL_len 0 m.Old
  refine loop_inv (fun k i s => pantomimelaw21_RemsetWide_l20 N lack more (renewL 0 m.Old) m k s (i : Int)) m.Old.length (fun i s => s.Pairwise (· < ·) ∧ s.length ≤ i ∧ (∀ x ∈ s, 0 < x ∧ x.tmod 2 = 0 ∧ x ≤ 2 * (i : Int)) ∧ ∀ x ∈ renewL 0 (m.Old.take i), x ∈ s) _ ?_ ?_ N 0 [] (by omega) (by omega) ⟨.nil, by simp, by simp, by simp [renewL]⟩
  · rintro k i s hi ⟨h1, h3, h4, h5⟩ g
    show Sat (pantomimelaw21_RemsetWide_l20 N lack more (renewL 0 m.Old) m (k + 1) s i) _
    rw [pantomimelaw21_RemsetWide_l20_s, lt_t (by omega), cond_true]
    have put : Sat (pantomimelaw21_RemsetWide_j25 N (pantomimelaw21_RemsetWide_l20 N lack more (renewL 0 m.Old) m k) lack i more (renewL 0 m.Old) m (s ++ [2 * (i : Int) + 2])) (· = true) := by
      unfold pantomimelaw21_RemsetWide_j25
      rw [r64 (by omega) (by omega)]
      refine g _ ⟨List.pairwise_append.2 ⟨h1, by simp, fun x hx y hy => ?_⟩, by simp; omega, fun x hx => ?_, fun x hx => ?_⟩
      · rw [List.mem_singleton] at hy; have := h4 x hx; omega
      · rcases List.mem_append.1 hx with h | h
        · have := h4 x h; exact ⟨this.1, this.2.1, by omega⟩
        · rw [List.mem_singleton] at h; subst h
          exact ⟨by omega, by rw [Int.tmod_eq_emod_of_nonneg (by omega)]; omega, by omega⟩
      · rw [renewL_snoc hi] at hx
        rcases hx with h | ⟨h, -⟩
        · exact List.mem_append.2 (.inl (h5 x h))
        · exact List.mem_append.2 (.inr (by simp [h]))
    have pass : youngS m.Old[i] = false → Sat (pantomimelaw21_RemsetWide_j25 N (pantomimelaw21_RemsetWide_l20 N lack more (renewL 0 m.Old) m k) lack i more (renewL 0 m.Old) m s) (· = true) := fun hy => by
      unfold pantomimelaw21_RemsetWide_j25
      rw [r64 (by omega) (by omega)]
      refine g _ ⟨h1, by omega, fun x hx => ?_, fun x hx => ?_⟩
      · have := h4 x hx; exact ⟨this.1, this.2.1, by omega⟩
      · rw [renewL_snoc hi] at hx
        rcases hx with h | ⟨-, h⟩
        · exact h5 x h
        · rw [hy] at h; cases h
    refine loop_inv (fun q j b => pantomimelaw21_RemsetWide_l29 N (pantomimelaw21_RemsetWide_l20 N lack more (renewL 0 m.Old) m k) lack i more (renewL 0 m.Old) s m q b (j : Int)) (renewL 0 m.Old).length (fun j b => b = true ↔ 2 * (i : Int) + 2 ∈ (renewL 0 m.Old).take j) _ ?_ ?_ N 0 false (by omega) (by omega) (by simp)
    · intro q j b hj hb k2
      show Sat (pantomimelaw21_RemsetWide_l29 N (pantomimelaw21_RemsetWide_l20 N lack more (renewL 0 m.Old) m k) lack i more (renewL 0 m.Old) s m (q + 1) b j) _
      rw [pantomimelaw21_RemsetWide_l29_s, lt_t (by omega), cond_true, getE_n hj, bs]
      have hnext : ∀ c : Bool, (c = true ↔ b = true ∨ (renewL 0 m.Old)[j] = 2 * (i : Int) + 2) → (c = true ↔ 2 * (i : Int) + 2 ∈ (renewL 0 m.Old).take (j + 1)) := fun c hc => by
        rw [hc, hb, take_succ_get hj, List.mem_append, List.mem_singleton]
        constructor <;> rintro (h | h)
        · exact .inl h
        · exact .inr h.symm
        · exact .inl h
        · exact .inr h.symm
      cases b
      · rw [cond_false, r64 (by omega) (by omega), r64 (by omega) (by omega), bs, r64 (by omega) (by omega)]
        exact k2 _ (hnext _ (by simp))
      · rw [cond_true, bs, r64 (by omega) (by omega)]
        exact k2 _ (hnext _ (by simp))
    · intro q b hb
      show Sat (pantomimelaw21_RemsetWide_l29 N (pantomimelaw21_RemsetWide_l20 N lack more (renewL 0 m.Old) m k) lack i more (renewL 0 m.Old) s m (q + 1) b _) _
      rw [pantomimelaw21_RemsetWide_l29_s, lt_f (by omega), cond_false]
      rw [List.take_length] at hb
      unfold pantomimelaw21_RemsetWide_j27
      have hy : b = false → youngS m.Old[i] = false := fun h => by
        cases hy : youngS m.Old[i]
        · rfl
        · have := hb.2 ((renewL_mem _ _ _).2 ⟨i, m.Old[i], List.getElem?_eq_getElem hi, hy, by rw [Nat.zero_add]⟩)
          rw [h] at this; cases this
      have go : ∀ c : Bool, (c = false → youngS m.Old[i] = false) → Sat (bif c then req (in64 (2 * (i : Int))) (req (in64 (2 * (i : Int) + 2)) (req (fitsL (s.length + ([2 * (i : Int) + 2] : List Int).length)) (pantomimelaw21_RemsetWide_j25 N (pantomimelaw21_RemsetWide_l20 N lack more (renewL 0 m.Old) m k) lack i more (renewL 0 m.Old) m (s ++ [2 * (i : Int) + 2])))) else pantomimelaw21_RemsetWide_j25 N (pantomimelaw21_RemsetWide_l20 N lack more (renewL 0 m.Old) m k) lack i more (renewL 0 m.Old) m s) (· = true) := fun c hc => by
        cases c
        · rw [cond_false]; exact pass (hc rfl)
        · rw [cond_true, r64 (by omega) (by omega), r64 (by omega) (by omega), rF (by simp; omega)]; exact put
      cases b
      · rw [cond_false]
        by_cases hlt : (i : Int) < more.length
        · rw [lt_t hlt, cond_true, getE_n (by omega), bs, bs, bs]
          exact go _ fun _ => hy rfl
        · rw [lt_f (by omega), cond_false, bs, bs]
          exact go _ fun _ => hy rfl
      · rw [cond_true, bs]
        exact go true fun h => by cases h
  · rintro k s ⟨h1, h3, h4, h5⟩
    show Sat (pantomimelaw21_RemsetWide_l20 N lack more (renewL 0 m.Old) m (k + 1) s _) _
    rw [pantomimelaw21_RemsetWide_l20_s, lt_f (by omega), cond_false]
    rw [List.take_length] at h5
    refine wide_end N hN m hm lack s ⟨fun x hx => ?_, h1⟩ (by omega) (fun x hx => ?_) h5
    · obtain ⟨g1, g2, g3⟩ := h4 x hx
      exact ⟨⟨g1, g2⟩, by rw [Int.tdiv_eq_ediv_of_nonneg (by omega)]; omega⟩
    · have := h4 x hx; exact ⟨by omega, by omega⟩
end Go.Proofs.Ytancgbfkpoeffaa
