/- Shapes: what a table keeps when it grows, plain. -/
import Derived.Test.YtmiecljgcbfklaaShape14
namespace Go.Proofs.Ytmiecljgcbfklaa
open Go.RowKit

theorem pre_get {T U : List ShD} (h : T <+: U) {i : Nat} (hi : i < T.length) : U[i]? = T[i]? := by
  obtain ⟨r, rfl⟩ := h
  rw [List.getElem?_append_left hi]
theorem find_pre {T U : List ShD} (hw : WF T) (h : T <+: U) (k : V3) : ∀ i, i < T.length → findL U k i = findL T k i := by
  intro i
  induction i using Nat.strongRecOn with
  | _ i ih =>
    intro hi
    have hx : T[i]? = some T[i] := List.getElem?_eq_getElem hi
    have hy : U[i]? = some T[i] := (pre_get h hi).trans hx
    by_cases hl : 0 < T[i].len
    · by_cases hk : T[i].key = k
      · rw [find_here hx hl hk, find_here hy hl hk]
      · have hpos : 0 < i := by
          rcases Nat.eq_zero_or_pos i with rfl | h
          · rw [hw.head] at hx; injection hx with hx; rw [← hx] at hl; simp [root] at hl
          · exact h
        obtain ⟨u, y, h1, h2, h3, h4⟩ := hw.up i _ hx hpos
        rw [find_up hx hl hk h1 h2, find_up hy hl hk h1 h2]
        exact ih u h2 (by omega)
    · rw [find_zero hx hl, find_zero hy hl]
theorem row_pre {T U : List ShD} (hw : WF T) (h : T <+: U) : ∀ i, i < T.length → rowL U i = rowL T i := by
  intro i
  induction i using Nat.strongRecOn with
  | _ i ih =>
    intro hi
    have hx : T[i]? = some T[i] := List.getElem?_eq_getElem hi
    have hy : U[i]? = some T[i] := (pre_get h hi).trans hx
    by_cases hl : 0 < T[i].len
    · have hpos : 0 < i := by
        rcases Nat.eq_zero_or_pos i with rfl | h
        · rw [hw.head] at hx; injection hx with hx; rw [← hx] at hl; simp [root] at hl
        · exact h
      obtain ⟨u, y, h1, h2, h3, h4⟩ := hw.up i _ hx hpos
      rw [row_up hx hl h1 h2, row_up hy hl h1 h2, ih u h2 (by omega)]
    · rw [row_zero hx hl, row_zero hy hl]
theorem before_pre {T U : List ShD} (hw : WF T) (h : T <+: U) {n : Int} (hn : 0 ≤ n) : ∀ i, i < T.length → beforeL U n i = beforeL T n i := by
  intro i
  induction i using Nat.strongRecOn with
  | _ i ih =>
    intro hi
    have hx : T[i]? = some T[i] := List.getElem?_eq_getElem hi
    have hy : U[i]? = some T[i] := (pre_get h hi).trans hx
    by_cases hl : n < T[i].len
    · have hpos : 0 < i := by
        rcases Nat.eq_zero_or_pos i with rfl | h
        · rw [hw.head] at hx; injection hx with hx; rw [← hx] at hl; simp [root] at hl; omega
        · exact h
      obtain ⟨u, y, h1, h2, h3, h4⟩ := hw.up i _ hx hpos
      rw [before_up hx hl h1 h2, before_up hy hl h1 h2]
      exact ih u h2 (by omega)
    · rw [before_here hx hl, before_here hy hl]
theorem prs_more : ∀ (r T : List ShD), 0 < T.length → prs T <+: prs (T ++ r)
  | [], T, _ => by simp
  | x :: r, T, h => by
    have h1 := prs_more r (T ++ [x]) (by simp)
    rw [List.append_assoc, List.singleton_append] at h1
    refine List.IsPrefix.trans ?_ h1
    rw [prs_snoc h]
    exact List.prefix_append _ _
theorem prs_pre {T U : List ShD} (h0 : 0 < T.length) (h : T <+: U) : prs T <+: prs U := by
  obtain ⟨r, rfl⟩ := h
  exact prs_more r T h0
theorem lk_pre {T U : List ShD} (h0 : 0 < T.length) (h : T <+: U) {s : Stp} {j : Nat} (hj : lk (prs T) s = some j) : lk (prs U) s = some j := by
  obtain ⟨r, hr⟩ := prs_pre h0 h
  unfold lk at hj ⊢
  rw [← hr, List.find?_append]
  rw [Option.map_eq_some_iff] at hj
  obtain ⟨p, h1, h2⟩ := hj
  rw [h1]
  simp [h2]
theorem grow_pre : ∀ (l : List ShD) (T : List ShD) (a : Nat), T <+: (grow T a l).1
  | [], T, a => List.prefix_refl _
  | x :: r, T, a => (List.prefix_append _ _).trans (grow_pre r _ _)
theorem grow_len : ∀ (l : List ShD) (T : List ShD) (a : Nat), (grow T a l).1.length = T.length + l.length
  | [], T, a => rfl
  | x :: r, T, a => by
    show (grow (T ++ _) T.length r).1.length = _
    rw [grow_len r]; simp; omega
theorem grow_lt : ∀ (l : List ShD) (T : List ShD) (a : Nat), a < T.length → (grow T a l).2 < (grow T a l).1.length
  | [], T, a, h => h
  | x :: r, T, a, h => grow_lt r _ _ (by simp)
theorem grow_wf : ∀ (l : List ShD) (T : List ShD) (a : Nat), WF T → a < T.length → T.length + l.length ≤ 1073741824 → WF (grow T a l).1
  | [], T, a, h, _, _ => h
  | x :: r, T, a, h, ha, hs => by
    simp only [List.length_cons] at hs
    exact grow_wf r _ _ (h.snoc a x.key x.attrs ha (by omega)) (by simp) (by simp; omega)
theorem foll_lt : ∀ (l : List ShD) (T : List ShD) (a : Nat), a < T.length → (foll T a l).1 < T.length
  | [], T, a, h => h
  | x :: r, T, a, h => by
    unfold foll
    split
    · rename_i j hj
      obtain ⟨y, h1, -⟩ := lk_prs hj
      exact foll_lt r T j (List.getElem?_eq_some_iff.1 h1).1
    · exact h
theorem foll_pre {T U : List ShD} (h0 : 0 < T.length) (h : T <+: U) : ∀ (l : List ShD) (a : Nat), foll U a l = foll U (foll T a l).1 (foll T a l).2
  | [], a => rfl
  | x :: r, a => by
    cases hl : lk (prs T) ((a : Int), x.key, x.attrs) with
    | none => rw [foll_none hl]
    | some j => rw [foll_some hl, foll_some (lk_pre h0 h hl)]; exact foll_pre h0 h r j
theorem foll_none_head : ∀ (l : List ShD) (T : List ShD) (a : Nat) (x : ShD) (r : List ShD), (foll T a l).2 = x :: r → lk (prs T) (((foll T a l).1 : Int), x.key, x.attrs) = none
  | [], T, a, x, r, h => by cases h
  | y :: l, T, a, x, r, h => by
    cases hl : lk (prs T) ((a : Int), y.key, y.attrs) with
    | none =>
      rw [foll_none hl] at h ⊢
      cases h
      exact hl
    | some j =>
      rw [foll_some hl] at h ⊢
      exact foll_none_head l T j x r h
theorem lk_snoc {L : List (Stp × Nat)} {s : Stp} {n : Nat} (h : lk L s = none) : lk (L ++ [(s, n)]) s = some n := by
  unfold lk at h ⊢
  rw [Option.map_eq_none_iff] at h
  rw [List.find?_append, h]
  simp
theorem grow_again : ∀ (l : List ShD) (T U : List ShD) (a : Nat), WF T → a < T.length → T.length + l.length ≤ 1073741824 → (∀ x r, l = x :: r → lk (prs T) ((a : Int), x.key, x.attrs) = none) → (grow T a l).1 <+: U → foll U a l = ((grow T a l).2, [])
  | [], T, U, a, _, _, _, _, _ => rfl
  | x :: r, T, U, a, hw, ha, hs, hn, hp => by
    simp only [List.length_cons] at hs
    have hw1 := hw.snoc a x.key x.attrs ha (by omega)
    have h1 : lk (prs (T ++ [⟨(a : Int), x.key, x.attrs, lenAt T a + 1⟩])) ((a : Int), x.key, x.attrs) = some T.length := by
      rw [prs_snoc (by omega)]
      exact lk_snoc (hn x r rfl)
    have hp' : (grow (T ++ [⟨(a : Int), x.key, x.attrs, lenAt T a + 1⟩]) T.length r).1 <+: U := hp
    have h2 := lk_pre (by simp) ((grow_pre r _ T.length).trans hp') h1
    rw [foll_some h2]
    exact grow_again r _ U T.length hw1 (by simp) (by simp; omega) (fun y q _ => lk_newest hw1 _ _ T.length (by simp)) hp'
theorem layT_ok {T : List ShD} {a : Nat} {l : List ShD} (h : (layT T a l).2.2 = 0) : (foll T a l).2.length + T.length ≤ 1073741824 ∧ layT T a l = ((grow T (foll T a l).1 (foll T a l).2).1, (grow T (foll T a l).1 (foll T a l).2).2, 0) := by
  unfold layT at h ⊢
  split
  · rename_i h1; rw [if_pos h1] at h; cases h
  · exact ⟨by omega, rfl⟩
theorem lay_pre {T : List ShD} (a : Nat) (l : List ShD) : T <+: (layT T a l).1 := by
  unfold layT
  split
  · exact List.prefix_refl _
  · exact grow_pre _ _ _
/-- the same again, later: the same shape, and nothing is made -/
theorem lay_again {T U : List ShD} {a : Nat} {l : List ShD} (hw : WF T) (ha : a < T.length) (h : (layT T a l).2.2 = 0) (hp : (layT T a l).1 <+: U) (hu : U.length ≤ 1073741824) : layT U a l = (U, (layT T a l).2.1, 0) := by
  obtain ⟨h1, h2⟩ := layT_ok h
  rw [h2] at hp ⊢
  have hTU : T <+: U := (grow_pre _ _ _).trans hp
  have h3 : foll U a l = ((grow T (foll T a l).1 (foll T a l).2).2, []) := by
    rw [foll_pre (by omega) hTU l a]
    exact grow_again _ T U _ hw (foll_lt l T a ha) (by omega) (fun x r e => foll_none_head l T a x r e) hp
  unfold layT
  rw [h3, if_neg (by simp; omega)]
  rfl
theorem asked_pre {T U : List ShD} (h : T <+: U) {n : Int} {k : V3} {a : Int} (h0 : askedE T n k a = 0) : askedE U n k a = 0 := by
  unfold askedE at h0 ⊢
  cases hi : inT T n with
  | false => rw [hi] at h0; simp at h0
  | true =>
    rw [hi] at h0
    have hl := h.length_le
    have : inT U n = true := by
      unfold inT at hi ⊢
      simp only [Bool.and_eq_true, decide_eq_true_eq] at hi ⊢
      omega
    rw [this]
    exact h0
/-- an act that was carried out, again -/
theorem do_again {T U : List ShD} (x : ActD) (hw : WF T) (h : (doT T x).2.2 = 0) (hp : (doT T x).1 <+: U) (hu : U.length ≤ 1073741824) : doT U x = (U, (doT T x).2.1, 0) := by
  have key : ∀ (a : Nat) (l : List ShD), a < T.length → (layI T a l).2.2 = 0 → (layI T a l).1 <+: U → layI U a l = (U, (layI T a l).2.1, 0) := by
    intro a l ha h1 h2
    unfold layI at h1 h2 ⊢
    rw [lay_again hw ha h1 h2 hu]
  have low : ∀ (a : Nat) (l : List ShD), T <+: (layI T a l).1 := fun a l => lay_pre a l
  unfold doT at h hp ⊢
  split
  · rename_i h0
    rw [if_pos h0] at h hp
    by_cases ha : askedE T x.shape x.key x.attrs = 0
    · obtain ⟨i, y, hi, hy⟩ := asked_in ha
      have hlt : i < T.length := (List.getElem?_eq_some_iff.1 hy).1
      unfold nextT at h hp ⊢
      rw [if_pos ha, hi] at h hp
      rw [if_pos ha, hi]
      simp only [Int.toNat_natCast] at h hp ⊢
      cases hf : findL T x.key i with
      | some q => rw [hf] at h; cases h
      | none =>
        rw [hf] at h hp
        dsimp only at h hp
        by_cases hl : 1024 ≤ lenAt T i
        · rw [if_pos hl] at h; cases h
        · rw [if_neg hl] at h hp
          have hTU := (low _ _).trans hp
          have hlU : lenAt U i = lenAt T i := by unfold lenAt; rw [pre_get hTU hlt]
          rw [← hi, if_pos (asked_pre hTU ha), find_pre hw hTU _ i hlt, hf]
          dsimp only
          rw [hlU, if_neg hl, if_neg hl]
          exact key _ _ hlt h hp
    · unfold nextT at h
      rw [if_neg ha] at h
      exact absurd h ha
  · rename_i h0
    rw [if_neg h0] at h hp
    split
    · rename_i h1
      rw [if_pos h1] at h hp
      by_cases ha : askedE T x.shape x.key x.attrs = 0
      · obtain ⟨i, y, hi, hy⟩ := asked_in ha
        have hlt : i < T.length := (List.getElem?_eq_some_iff.1 hy).1
        unfold changeT at h hp ⊢
        rw [if_pos ha, hi] at h hp
        rw [if_pos ha, hi]
        simp only [Int.toNat_natCast] at h hp ⊢
        cases hf : findL T x.key i with
        | none => rw [hf] at h; cases h
        | some q =>
          obtain ⟨pl, at_⟩ := q
          rw [hf] at h hp
          dsimp only at h hp
          have hTU := (low _ _).trans hp
          have hpl := find_pl hw i y _ _ hy hf
          rw [← hi, if_pos (asked_pre hTU ha), find_pre hw hTU _ i hlt, hf]
          dsimp only
          rw [before_pre hw hTU hpl.1 i hlt, row_pre hw hTU i hlt]
          exact key _ _ (before_lt hw hpl.1 i hlt) h hp
      · unfold changeT at h
        rw [if_neg ha] at h
        exact absurd h ha
    · rename_i h1
      rw [if_neg h1] at h hp
      by_cases ha : askedE T x.shape x.key 0 = 0
      · obtain ⟨i, y, hi, hy⟩ := asked_in ha
        have hlt : i < T.length := (List.getElem?_eq_some_iff.1 hy).1
        unfold withoutT at h hp ⊢
        rw [if_pos ha, hi] at h hp
        rw [if_pos ha, hi]
        simp only [Int.toNat_natCast] at h hp ⊢
        cases hf : findL T x.key i with
        | none => rw [hf] at h; cases h
        | some q =>
          obtain ⟨pl, at_⟩ := q
          rw [hf] at h hp
          dsimp only at h hp
          have hTU := (low _ _).trans hp
          have hpl := find_pl hw i y _ _ hy hf
          rw [← hi, if_pos (asked_pre hTU ha), find_pre hw hTU _ i hlt, hf]
          dsimp only
          rw [before_pre hw hTU hpl.1 i hlt, row_pre hw hTU i hlt]
          exact key _ _ (before_lt hw hpl.1 i hlt) h hp
      · unfold withoutT at h
        rw [if_neg ha] at h
        exact absurd h ha
/-- an act that was refused yields 0 -/
theorem do_zero {T : List ShD} (x : ActD) (h : ¬ (doT T x).2.2 = 0) : (doT T x).2.1 = 0 := by
  have hlay : ∀ a l, ¬ (layI T a l).2.2 = 0 → (layI T a l).2.1 = 0 := by
    intro a l h
    unfold layI layT at h ⊢
    split
    · rfl
    · rename_i h1; rw [if_neg h1] at h; exact absurd rfl h
  unfold doT nextT changeT withoutT at h ⊢
  repeat' split
  all_goals first | rfl | (apply hlay; simp_all; done)
theorem do_pre {T : List ShD} (x : ActD) : T <+: (doT T x).1 := by
  have hlay : ∀ a l, T <+: (layI T a l).1 := fun a l => lay_pre a l
  unfold doT nextT changeT withoutT
  repeat' split
  all_goals first | exact List.prefix_refl _ | exact hlay _ _
end Go.Proofs.Ytmiecljgcbfklaa
