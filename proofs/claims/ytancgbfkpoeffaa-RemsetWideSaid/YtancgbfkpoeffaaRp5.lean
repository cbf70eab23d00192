/- Plain: the program's set against lists; the laws RemsetNotes and RemsetOrder. -/
import Derived.Test.YtancgbfkpoeffaaRp4
import Derived.Test.YtancgbfkpoeffaaRd4
namespace Go.Proofs.Ytancgbfkpoeffaa
open Go.RowKit Go.ChangeShapes Go.WideShapes Go.Deep

structure SetS (kv : List (Int × Bool)) (S : Int → Prop) (n : Nat) : Prop where
  nd : (kv.map Prod.fst).Nodup
  len : kv.length ≤ n
  mem : ∀ x, x ∈ kv.map Prod.fst ↔ S x
  i64 : ∀ x, S x → in64 x
theorem SetS.nil : SetS [] (fun _ => False) 0 := ⟨by simp, by simp, by simp, fun _ h => h.elim⟩
theorem keys_mem {β : Type} (kv : List (Int × β)) (x : Int) : x ∈ keysL kv ↔ x ∈ kv.map Prod.fst := by unfold keysL; exact List.mem_mergeSort
theorem keys_len {β : Type} (kv : List (Int × β)) : (keysL kv).length = kv.length := by unfold keysL; rw [List.length_mergeSort, List.length_map]
theorem keys_asc {β : Type} {kv : List (Int × β)} (h : (kv.map Prod.fst).Nodup) : (keysL kv).Pairwise (· < ·) := by
  unfold keysL
  have h1 : ((kv.map (·.1)).mergeSort (fun x y => decide (x ≤ y))).Pairwise fun x y => decide (x ≤ y) = true := List.pairwise_mergeSort (fun a b c h1 h2 => decide_eq_true (by have := of_decide_eq_true h1; have := of_decide_eq_true h2; omega)) (fun a b => by by_cases h : a ≤ b <;> simp [h]; omega) _
  have h2 : ((kv.map (·.1)).mergeSort (fun x y => decide (x ≤ y))).Nodup := (List.mergeSort_perm _ _).nodup_iff.2 h
  exact (h1.and h2).imp fun {a b} ⟨g1, g2⟩ => by have := of_decide_eq_true g1; omega
theorem SetS.list {kv : List (Int × Bool)} {S : Int → Prop} {n : Nat} (h : SetS kv S n) (hn : n ≤ 1000) (N : Nat) : remset_Set_List_O N ⟨kv⟩ = some (keysL kv) := list_spec N ⟨kv⟩ (fun k hk => h.i64 _ ((h.mem k).1 hk)) h.nd (by have := h.len; show kv.length ≤ 5000; omega)
theorem SetS.keys {kv : List (Int × Bool)} {S : Int → Prop} {n : Nat} (h : SetS kv S n) {l : List Int} (hl : l.Pairwise (· < ·)) (hm : ∀ x, x ∈ l ↔ S x) : keysL kv = l ∧ kv.length = l.length := by
  have e : keysL kv = l := asc_ext (keys_asc h.nd) hl fun x => by rw [keys_mem, h.mem, hm]
  exact ⟨e, by rw [← e, keys_len]⟩
def oldP (a : Int) : Prop := 0 < a ∧ a.tmod 2 = 0
theorem SetS.note {kv : List (Int × Bool)} {S : Int → Prop} {n : Nat} (h : SetS kv S n) (N : Nat) (hN : 5000 < N) {a : Int} (ha : in64 a) {c : DCell} (hS : c.Slots.length ≤ 1000) (hc : c.More.length ≤ 1000) : ∃ b kv', remset_Set_Note_O N ⟨kv⟩ a c = some (b, ⟨kv'⟩) ∧ (b = true ↔ oldP a ∧ youngS c = true) ∧ SetS kv' (fun x => (S x ∧ (x = a → ¬ oldP a)) ∨ (x = a ∧ oldP a ∧ youngS c = true)) (n + 1) := by
  rw [note_spec N hN _ _ _ hS hc]
  by_cases h1 : oldP a
  · have h1' : 0 < a ∧ a.tmod 2 = 0 := h1
    rw [if_pos h1']
    cases hy : youngS c
    · have h2 := delL_keys h.nd a
      refine ⟨false, delL kv a, rfl, by simp, h2.2.1, by have := h.len; omega, fun x => ?_, ?_⟩
      · rw [h2.1, h.mem]; simp [h1]
      · rintro x (⟨h3, -⟩ | ⟨-, -, h3⟩)
        · exact h.i64 _ h3
        · cases h3
    · refine ⟨true, upL kv a true, rfl, by simp [h1], upL_nodup h.nd a true, by have := upL_len kv a true; have := h.len; omega, fun x => ?_, ?_⟩
      · rw [upL_mem, h.mem]
        by_cases e : x = a <;> simp [e, h1]
      · rintro x (⟨h3, -⟩ | ⟨rfl, -⟩)
        · exact h.i64 _ h3
        · exact ha
  · have h1' : ¬ (0 < a ∧ a.tmod 2 = 0) := h1
    rw [if_neg h1']
    refine ⟨false, kv, rfl, by simp [h1], h.nd, by have := h.len; omega, fun x => ?_, ?_⟩
    · rw [h.mem]; simp [h1]
    · rintro x (⟨h3, -⟩ | ⟨-, h3, -⟩)
      · exact h.i64 _ h3
      · exact absurd h3 h1
theorem SetS.congr {kv : List (Int × Bool)} {S S' : Int → Prop} {n : Nat} (h : SetS kv S n) (hs : ∀ x, S x ↔ S' x) : SetS kv S' n := ⟨h.nd, h.len, fun x => (h.mem x).trans (hs x), fun x hx => h.i64 x ((hs x).2 hx)⟩
theorem noteL_mem {l : List Int} {a : Int} {y : Bool} (x : Int) : x ∈ noteL l a y ↔ (x ∈ l ∧ x ≠ a) ∨ (x = a ∧ y = true) := by
  unfold noteL
  have e : x ∈ (bif y then [a] else []) ↔ (x = a ∧ y = true) := by cases y <;> simp
  simp only [List.mem_append, List.mem_filter, decide_eq_true_eq, e]
  by_cases hx : x ∈ l <;> cases y <;> simp [hx] <;> omega
theorem noteL_asc {l : List Int} (h : l.Pairwise (· < ·)) (a : Int) (y : Bool) : (noteL l a y).Pairwise (· < ·) := by
  unfold noteL
  have key : ∀ t : List Int, t.Pairwise (· < ·) → (∀ x ∈ t, x = a) → ((l.filter fun x => decide (x < a)) ++ t ++ l.filter fun x => decide (a < x)).Pairwise (· < ·) := fun t ht ha => by
    refine List.pairwise_append.2 ⟨List.pairwise_append.2 ⟨h.filter _, ht, fun x hx z hz => ?_⟩, h.filter _, fun x hx z hz => ?_⟩
    · have := of_decide_eq_true (List.mem_filter.1 hx).2; have := ha z hz; omega
    · have h1 := of_decide_eq_true (List.mem_filter.1 hz).2
      rcases List.mem_append.1 hx with h2 | h2
      · have := of_decide_eq_true (List.mem_filter.1 h2).2; omega
      · have := ha x h2; omega
  cases y
  · exact key [] .nil fun x hx => by cases hx
  · exact key [a] (by simp) fun x hx => by simpa using hx
def StepsOk (l : List DStep) : Prop := l.length ≤ 60 ∧ (∀ s ∈ l, s.Cell.Slots.length ≤ 1000 ∧ s.Cell.More.length ≤ 1000) ∧ ∀ s ∈ l, in64 s.At
theorem notes_loop (N : Nat) (hN : 5000 < N) (l : List DStep) (hl : StepsOk l) : Sat (pantomimelaw21_RemsetNotes_l26 N l N [] 0 []) (· = true) := by
  have h60 := hl.1
  refine loop_inv (fun m i (s : List Int × List (Int × Bool)) => pantomimelaw21_RemsetNotes_l26 N l m s.1 (i : Int) s.2) l.length (fun i s => s.1.Pairwise (· < ·) ∧ s.1.length ≤ i ∧ SetS s.2 (· ∈ s.1) i) _ ?_ ?_ N 0 ([], []) (by omega) (by omega) ⟨.nil, by simp, SetS.nil.congr fun x => by simp⟩
  · rintro m i ⟨want, kv⟩ hi ⟨h1, h2, h3⟩ k
    show Sat (pantomimelaw21_RemsetNotes_l26 N l (m + 1) want i kv) _
    have hm := List.getElem_mem hi
    obtain ⟨hS, hM⟩ := hl.2.1 _ hm
    have hA := hl.2.2 _ hm
    dsimp only at h1 h2 h3
    have join : ∀ want' kv', want'.Pairwise (· < ·) → want'.length ≤ i + 1 → SetS kv' (· ∈ want') (i + 1) → Sat (pantomimelaw21_RemsetNotes_j32 N (pantomimelaw21_RemsetNotes_l26 N l m) i l want' kv') (· = true) := fun want' kv' g1 g2 g3 => by
      unfold pantomimelaw21_RemsetNotes_j32 remset_Set_Len_O
      obtain ⟨e1, e2⟩ := g3.keys g1 fun x => Iff.rfl
      rw [g3.list (by omega), bs, e1, same_spec N hN _ _ (by omega), bs, decide_eq_true rfl, Bool.not_true, cond_false, bs, e2, eq_t rfl, Bool.not_true, bs, cond_false, r64 (by omega) (by omega)]
      exact k (want', kv') ⟨g1, g2, g3⟩
    rw [pantomimelaw21_RemsetNotes_l26_s, lt_t (by omega), cond_true, getE_n hi]
    simp only [bs]
    refine sat_cond (fun _ => ?_) fun _ => ?_
    · unfold remset_Set_Clear_O
      rw [bs]
      exact join [] [] .nil (by simp) ⟨by simp, by simp, by simp, fun _ h => by cases h⟩
    · obtain ⟨b, kv', g1, g2, g3⟩ := h3.note N hN hA hS hM
      rw [ref_note_spec N hN _ _ _ (by omega) hS hM, bs, g1, bs]
      by_cases ho : oldP l[i].At
      · have ho' : 0 < l[i].At ∧ l[i].At.tmod 2 = 0 := ho
        have e : b = youngS l[i].Cell := by
          cases hy : youngS l[i].Cell
          · rw [hy] at g2; cases b
            · rfl
            · exact absurd (g2.1 rfl).2 (by decide)
          · exact g2.2 ⟨ho, hy⟩
        rw [if_pos ho', e]
        simp only [beq_self_eq_true, nt, cf]
        refine join _ _ (noteL_asc h1 _ _) ?_ (g3.congr fun x => ?_)
        · have g4 : (noteL want l[i].At (youngS l[i].Cell)).length ≤ want.length + 1 := by
            have e1 := (noteL_asc h1 l[i].At (youngS l[i].Cell))
            have e2 := (g3.congr (S' := (· ∈ noteL want l[i].At (youngS l[i].Cell))) fun x => by
              rw [noteL_mem]
              by_cases e : x = l[i].At
              · subst e; simp [ho]
              · simp [e])
            have e3 := (e2.keys e1 fun x => Iff.rfl).2
            have e4 : kv.length = want.length := (h3.keys h1 fun x => Iff.rfl).2
            unfold noteL
            have := List.length_filter_le (fun x => decide (x < l[i].At)) want
            have f1 : (want.filter fun x => decide (x < l[i].At)).length + (want.filter fun x => decide (l[i].At < x)).length ≤ want.length := by
              clear g3 e2 e3 e4 h3 this e1 h1 h2 join k g1
              induction want with
              | nil => simp
              | cons y w ih =>
                by_cases a1 : y < l[i].At
                · have a2 : ¬ l[i].At < y := by omega
                  simp [a1, a2]; omega
                · by_cases a2 : l[i].At < y
                  · simp [a1, a2]; omega
                  · simp [a1, a2]; omega
            cases youngS l[i].Cell <;> simp <;> omega
          omega
        · rw [noteL_mem]
          by_cases e : x = l[i].At
          · subst e; simp [ho]
          · simp [e]
      · have ho' : ¬ (0 < l[i].At ∧ l[i].At.tmod 2 = 0) := ho
        have e : b = false := by
          cases b
          · rfl
          · exact absurd (g2.1 rfl).1 ho
        rw [if_neg ho', e]
        simp only [beq_self_eq_true, nt, cf]
        refine join _ _ h1 (by omega) (g3.congr fun x => ?_)
        simp [ho]
  · rintro m ⟨want, kv⟩ ⟨h1, h2, h3⟩
    show Sat (pantomimelaw21_RemsetNotes_l26 N l (m + 1) want _ kv) _
    rw [pantomimelaw21_RemsetNotes_l26_s, lt_f (by omega), cond_false]
    unfold pantomimelaw21_RemsetNotes_j25
    rw [lives_spec N hN, bs]
    exact sat_some rfl
theorem few_steps (N : Nat) (hN : 5000 < N) (l : List DStep) (hl : l.length ≤ 60) (hw : ∀ s ∈ l, wfDStep s) : Sat (pantomimelaw21_few_O N (l.map (·.Cell))) fun b => b = true → StepsOk l := by
  obtain ⟨b, h1, h2⟩ := few_spec N (by omega) (l.map (·.Cell))
  refine ⟨b, h1, fun hb => ?_⟩
  have h3 := (h2 hb).2
  exact ⟨hl, fun s hs => h3 _ (List.mem_map.2 ⟨s, hs, rfl⟩), fun s hs => (hw s hs).2.1⟩
theorem notes_spec (N : Nat) (hN : 5000 < N) (l : List DStep) (hw : ∀ s ∈ l, wfDStep s) : pantomimelaw21_RemsetNotes_O N l = some true := by
  apply Sat.eq
  unfold pantomimelaw21_RemsetNotes_O
  refine sat_dec (fun _ => ?_) fun hl => ?_
  · rw [lives_spec N hN, bs]; exact sat_some rfl
  · refine loop_inv (fun m i s => pantomimelaw21_RemsetNotes_l6 N l m s (i : Int)) l.length (fun i s => s = (l.take i).map (·.Cell) ∧ i ≤ 60) _ ?_ ?_ N 0 [] (by omega) (by omega) ⟨by simp, by omega⟩
    · rintro m i s hi ⟨h1, h2⟩ k
      show Sat (pantomimelaw21_RemsetNotes_l6 N l (m + 1) s i) _
      have hs : s.length ≤ 60 := by rw [h1, List.length_map, List.length_take]; omega
      rw [pantomimelaw21_RemsetNotes_l6_s, lt_t (by omega), cond_true, getE_n hi, bs, rF (by simp; omega), r64 (by omega) (by omega)]
      exact k _ ⟨by rw [take_succ_get hi, List.map_append, h1]; rfl, by omega⟩
    · rintro m s ⟨h1, -⟩
      show Sat (pantomimelaw21_RemsetNotes_l6 N l (m + 1) s _) _
      rw [pantomimelaw21_RemsetNotes_l6_s, lt_f (by omega), cond_false]
      rw [List.take_length] at h1
      unfold pantomimelaw21_RemsetNotes_j4
      rw [h1]
      refine (few_steps N hN l (by omega) hw).bind fun b hb => sat_not (fun _ => ?_) fun h => ?_
      · rw [lives_spec N hN, bs]; exact sat_some rfl
      · exact notes_loop N hN l (hb h)
/-! RemsetOrder -/
def inS (l : List DStep) (x : Int) : Prop := ∃ s ∈ l, s.At = x ∧ oldP x ∧ youngS s.Cell = true
def Dist (l : List DStep) : Prop := l.Pairwise fun a b => a.At ≠ b.At
theorem SetS.step {kv : List (Int × Bool)} {l : List DStep} {n : Nat} (h : SetS kv (inS l) n) {s : DStep} (hd : ∀ t ∈ l, t.At ≠ s.At) (N : Nat) (hN : 5000 < N) (ha : in64 s.At) (hS : s.Cell.Slots.length ≤ 1000) (hc : s.Cell.More.length ≤ 1000) : ∃ b kv', remset_Set_Note_O N ⟨kv⟩ s.At s.Cell = some (b, ⟨kv'⟩) ∧ SetS kv' (inS (s :: l)) (n + 1) := by
  obtain ⟨b, kv', h1, -, h3⟩ := h.note N hN ha hS hc
  refine ⟨b, kv', h1, h3.congr fun x => ?_⟩
  unfold inS
  constructor
  · rintro (⟨⟨t, h4, h5, h6⟩, -⟩ | ⟨rfl, h4, h5⟩)
    · exact ⟨t, by simp [h4], h5, h6⟩
    · exact ⟨s, by simp, rfl, h4, h5⟩
  · rintro ⟨t, h4, h5, h6, h7⟩
    rcases List.mem_cons.1 h4 with rfl | h4
    · exact .inr ⟨h5.symm, h5 ▸ h6, h7⟩
    · exact .inl ⟨⟨t, h4, h5, h6, h7⟩, fun e => absurd (h5.trans e) (hd t h4)⟩
theorem dist_ne {l : List DStep} (h : Dist l) {i j : Nat} (hi : i < l.length) (hj : j < l.length) (e : i ≠ j) : l[i].At ≠ l[j].At := by
  have := List.pairwise_iff_getElem.1 h
  rcases Nat.lt_or_gt_of_ne e with h1 | h1
  · exact this i j hi hj h1
  · exact (this j i hj hi h1).symm
theorem order_loop (N : Nat) (hN : 5000 < N) (l : List DStep) (hl : StepsOk l) (hd : Dist l) : Sat (pantomimelaw21_RemsetOrder_l42 N l N 0 [] []) (· = true) := by
  have h60 := hl.1
  refine loop_inv (fun m i (s : List (Int × Bool) × List (Int × Bool)) => pantomimelaw21_RemsetOrder_l42 N l m (i : Int) s.1 s.2) l.length (fun i s => SetS s.1 (inS (l.take i)) i ∧ SetS s.2 (inS (l.drop (l.length - i))) i) _ ?_ ?_ N 0 ([], []) (by omega) (by omega) ⟨SetS.nil.congr fun x => by simp [inS], SetS.nil.congr fun x => by simp [inS]⟩
  · rintro m i ⟨a, b⟩ hi ⟨h1, h2⟩ k
    show Sat (pantomimelaw21_RemsetOrder_l42 N l (m + 1) i a b) _
    have hm := List.getElem_mem hi
    have hi' : l.length - 1 - i < l.length := by omega
    have hm' := List.getElem_mem hi'
    obtain ⟨b1, a', g1, g2⟩ := h1.step (s := l[i]) (fun t ht => by
      obtain ⟨j, hj, rfl⟩ := List.mem_iff_getElem.1 ht
      rw [List.getElem_take]
      rw [List.length_take] at hj
      exact dist_ne hd _ _ (by omega)) N hN (hl.2.2 _ hm) (hl.2.1 _ hm).1 (hl.2.1 _ hm).2
    obtain ⟨b2, b', g3, g4⟩ := h2.step (s := l[l.length - 1 - i]) (fun t ht => by
      obtain ⟨j, hj, rfl⟩ := List.mem_iff_getElem.1 ht
      rw [List.getElem_drop]
      rw [List.length_drop] at hj
      exact dist_ne hd _ _ (by omega)) N hN (hl.2.2 _ hm') (hl.2.1 _ hm').1 (hl.2.1 _ hm').2
    have e : getE l ((l.length : Int) - 1 - (i : Int)) = some l[l.length - 1 - i] := by
      rw [show (l.length : Int) - 1 - (i : Int) = ((l.length - 1 - i : Nat) : Int) by omega, getE_n hi']
    rw [pantomimelaw21_RemsetOrder_l42_s, lt_t (by omega), cond_true, getE_n hi, bs, bs, g1, bs, r64 (by omega) (by omega), r64 (by omega) (by omega), e, bs, r64 (by omega) (by omega), r64 (by omega) (by omega), bs, g3, bs, r64 (by omega) (by omega)]
    refine k (a', b') ⟨g2.congr fun x => ?_, g4.congr fun x => ?_⟩
    · unfold inS; rw [take_succ_get hi]
      simp only [List.mem_append, List.mem_cons, List.not_mem_nil, or_false]
      constructor <;> rintro ⟨s, hs, h⟩ <;> exact ⟨s, hs.symm, h⟩
    · rw [show l.length - (i + 1) = l.length - 1 - i by omega, List.drop_eq_getElem_cons hi', show l.length - 1 - i + 1 = l.length - i by omega]
  · rintro m ⟨a, b⟩ ⟨h1, h2⟩
    show Sat (pantomimelaw21_RemsetOrder_l42 N l (m + 1) _ a b) _
    rw [pantomimelaw21_RemsetOrder_l42_s, lt_f (by omega), cond_false]
    dsimp only at h1 h2
    rw [List.take_length] at h1
    rw [Nat.sub_self, List.drop_zero] at h2
    have hk := h1.keys (keys_asc h2.nd) fun x => by rw [keys_mem, h2.mem]
    have hlen : a.length = b.length := by rw [hk.2, keys_len]
    unfold pantomimelaw21_RemsetOrder_j39 remset_Set_Len_O
    rw [h1.list (by omega), bs, h2.list (by omega), bs, hk.1, same_spec N hN _ _ (by rw [keys_len]; have := h2.len; omega), bs, decide_eq_true rfl, cond_true, bs, bs]
    rw [eq_t (by rw [hlen]), bs, cond_true, lives_spec N hN, bs, bs]
    exact sat_some rfl
theorem order_spec (N : Nat) (hN : 5000 < N) (l : List DStep) (hw : ∀ s ∈ l, wfDStep s) : pantomimelaw21_RemsetOrder_O N l = some true := by
  apply Sat.eq
  unfold pantomimelaw21_RemsetOrder_O
  refine sat_dec (fun _ => ?_) fun hl => ?_
  · rw [lives_spec N hN, bs]; exact sat_some rfl
  · refine loop_inv (fun m i s => pantomimelaw21_RemsetOrder_l6 N l m s (i : Int)) l.length (fun i s => s = (l.take i).map (·.Cell) ∧ Dist (l.take i)) _ ?_ ?_ N 0 [] (by omega) (by omega) ⟨by simp, by simp [Dist]⟩
    · rintro m i s hi ⟨h1, h2⟩ k
      show Sat (pantomimelaw21_RemsetOrder_l6 N l (m + 1) s i) _
      have hs : s.length ≤ 60 := by rw [h1, List.length_map, List.length_take]; omega
      rw [pantomimelaw21_RemsetOrder_l6_s, lt_t (by omega), cond_true]
      refine loop_inv0 (fun q j => pantomimelaw21_RemsetOrder_l14 N (pantomimelaw21_RemsetOrder_l6 N l m) i l s q (j : Int)) i (fun j => ∀ t (ht : t < j) (hti : t < i), l[t].At ≠ l[i].At) _ ?_ ?_ N 0 (by omega) (by omega) (fun t ht => by omega)
      · intro q j hj g1 k2
        show Sat (pantomimelaw21_RemsetOrder_l14 N (pantomimelaw21_RemsetOrder_l6 N l m) i l s (q + 1) j) _
        rw [pantomimelaw21_RemsetOrder_l14_s, lt_t (by omega), cond_true, getE_n (by omega), bs, getE_n hi, bs]
        refine sat_dec (fun _ => ?_) fun hne => ?_
        · rw [lives_spec N hN, bs]; exact sat_some rfl
        · rw [r64 (by omega) (by omega)]
          refine k2 fun t ht hti => ?_
          by_cases e : t = j
          · subst e; exact hne
          · exact g1 t (by omega) hti
      · intro q g1
        show Sat (pantomimelaw21_RemsetOrder_l14 N (pantomimelaw21_RemsetOrder_l6 N l m) i l s (q + 1) i) _
        rw [pantomimelaw21_RemsetOrder_l14_s, lt_f (by omega), cond_false]
        unfold pantomimelaw21_RemsetOrder_j13 pantomimelaw21_RemsetOrder_j11
        rw [getE_n hi, bs, rF (by simp; omega), r64 (by omega) (by omega)]
        refine k _ ⟨by rw [take_succ_get hi, List.map_append, h1]; rfl, ?_⟩
        rw [take_succ_get hi]
        refine List.pairwise_append.2 ⟨h2, by simp, fun x hx y hy => ?_⟩
        rw [List.mem_singleton] at hy
        subst hy
        obtain ⟨j, hj, rfl⟩ := List.mem_iff_getElem.1 hx
        rw [List.length_take] at hj
        rw [List.getElem_take]
        exact g1 j (by omega) (by omega)
    · rintro m s ⟨h1, h2⟩
      show Sat (pantomimelaw21_RemsetOrder_l6 N l (m + 1) s _) _
      rw [pantomimelaw21_RemsetOrder_l6_s, lt_f (by omega), cond_false]
      rw [List.take_length] at h1 h2
      unfold pantomimelaw21_RemsetOrder_j4 remset_New_O
      rw [h1]
      refine (few_steps N hN l (by omega) hw).bind fun b hb => sat_not (fun _ => ?_) fun h => ?_
      · rw [lives_spec N hN, bs]; exact sat_some rfl
      · rw [bs, bs]
        exact order_loop N hN l (hb h) h2
end Go.Proofs.Ytancgbfkpoeffaa
