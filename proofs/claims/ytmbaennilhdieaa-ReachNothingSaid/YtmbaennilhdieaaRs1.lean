/- Plain: traversals of a graph with weak maps, as relations. No program in sight. -/
import Derived.ProofKit
namespace Go.Proofs.Ytmbaennilhdieaa
open Go.RowKit

structure Gr where
  has : Int → Bool
  leads : Int → List Int
  opens : List Int → Int → List Int
def layL (has : Int → Bool) : List Int → List Int → List Int
  | row, [] => row
  | row, x :: l => layL has (bif has x && !decide (x ∈ row) then row ++ [x] else row) l
inductive Thr (g : Gr) : List Int → Nat → List Int → Prop
  | done {row : List Int} {k : Nat} : row.length ≤ k → Thr g row k row
  | step {row : List Int} {k : Nat} {a : Int} {r : List Int} : row[k]? = some a → Thr g (layL g.has row (g.leads a)) (k + 1) r → Thr g row k r
def passL (g : Gr) : List Int → List Int → List Int
  | row, [] => row
  | row, a :: as => passL g (layL g.has row (g.opens row a)) as
inductive Ord (g : Gr) : List Int → List Int → Prop
  | done {row : List Int} : passL g row row = row → Ord g row row
  | step {row r1 r : List Int} : passL g row row ≠ row → Thr g (passL g row row) row.length r1 → Ord g r1 r → Ord g row r
/-- l is the order of discovery from the addresses roots; b is what is discovered without weak maps -/
structure IsOrder (g : Gr) (roots : List Int) (b l : List Int) : Prop where
  strong : Thr g (layL g.has [] roots) 0 b
  all : Ord g b l

theorem layL_app (has : Int → Bool) : ∀ (row l : List Int), ∃ t, layL has row l = row ++ t ∧ (∀ x ∈ t, has x = true ∧ x ∈ l)
  | row, [] => ⟨[], by simp [layL], by simp⟩
  | row, x :: l => by
    unfold layL
    cases h : has x && !decide (x ∈ row) with
    | false =>
      obtain ⟨t, h1, h2⟩ := layL_app has row l
      exact ⟨t, h1, fun y hy => ⟨(h2 y hy).1, by simp [(h2 y hy).2]⟩⟩
    | true =>
      obtain ⟨t, h1, h2⟩ := layL_app has (row ++ [x]) l
      refine ⟨x :: t, by rw [cond_true, h1]; simp, fun y hy => ?_⟩
      rw [Bool.and_eq_true] at h
      rcases List.mem_cons.1 hy with e | hy
      · subst e; exact ⟨h.1, by simp⟩
      · exact ⟨(h2 y hy).1, by simp [(h2 y hy).2]⟩
theorem layL_two (has : Int → Bool) : ∀ (row l l' : List Int), layL has row (l ++ l') = layL has (layL has row l) l'
  | _, [], _ => rfl
  | row, x :: l, l' => by
    show layL has _ (l ++ l') = _
    rw [layL_two has _ l l']; rfl
theorem layL_mem {has : Int → Bool} : ∀ (row l : List Int) {x : Int}, x ∈ l → has x = true → x ∈ layL has row l
  | row, y :: l, x, h, hx => by
    unfold layL
    rcases List.mem_cons.1 h with e | h
    · subst e
      obtain ⟨t, h1, -⟩ := layL_app has (bif has x && !decide (x ∈ row) then row ++ [x] else row) l
      rw [h1]
      refine List.mem_append_left _ ?_
      rw [hx, Bool.true_and]
      by_cases hm : x ∈ row <;> simp [hm]
    · exact layL_mem _ l h hx
theorem layL_old {has : Int → Bool} {row l : List Int} {x : Int} (h : x ∈ row) : x ∈ layL has row l := by
  obtain ⟨t, h1, -⟩ := layL_app has row l
  rw [h1]; exact List.mem_append_left _ h
theorem layL_new {has : Int → Bool} {row l : List Int} {x : Int} (h : x ∈ layL has row l) : x ∈ row ∨ (has x = true ∧ x ∈ l) := by
  obtain ⟨t, h1, h2⟩ := layL_app has row l
  rw [h1] at h
  rcases List.mem_append.1 h with h | h
  · exact .inl h
  · exact .inr (h2 x h)
theorem passL_app (g : Gr) : ∀ (row as : List Int), ∃ t, passL g row as = row ++ t
  | row, [] => ⟨[], by simp [passL]⟩
  | row, a :: as => by
    obtain ⟨t, h1, -⟩ := layL_app g.has row (g.opens row a)
    obtain ⟨t2, h2⟩ := passL_app g (layL g.has row (g.opens row a)) as
    exact ⟨t ++ t2, by unfold passL; rw [h2, h1, List.append_assoc]⟩
theorem passL_two (g : Gr) : ∀ (row as bs : List Int), passL g row (as ++ bs) = passL g (passL g row as) bs
  | _, [], _ => rfl
  | row, a :: as, bs => by
    show passL g _ (as ++ bs) = _
    rw [passL_two g _ as bs]; rfl
theorem passL_has {g : Gr} : ∀ {row : List Int} (as : List Int), (∀ x ∈ row, g.has x = true) → ∀ x ∈ passL g row as, g.has x = true
  | _, [], h => h
  | _, _ :: as, h => passL_has as fun x hx => (layL_new hx).elim (h x) (·.1)
theorem Thr.app {g : Gr} {row r : List Int} {k : Nat} (h : Thr g row k r) : ∃ t, r = row ++ t := by
  induction h with
  | done _ => exact ⟨[], by simp⟩
  | step _ _ ih =>
    rename_i row _ a _ _ _
    obtain ⟨t, rfl⟩ := ih
    obtain ⟨t2, h1, -⟩ := layL_app g.has row (g.leads a)
    exact ⟨t2 ++ t, by rw [h1, List.append_assoc]⟩
theorem Thr.has {g : Gr} {row r : List Int} {k : Nat} (h : Thr g row k r) (hn : ∀ x ∈ row, g.has x = true) : ∀ x ∈ r, g.has x = true := by
  induction h with
  | done _ => exact hn
  | step _ _ ih => exact ih fun x hx => (layL_new hx).elim (hn x) (·.1)
theorem Thr.det {g : Gr} {row r r' : List Int} {k : Nat} (h : Thr g row k r) (h' : Thr g row k r') : r = r' := by
  induction h with
  | done hk =>
    cases h' with
    | done _ => rfl
    | step ha _ => rw [List.getElem?_eq_none hk] at ha; cases ha
  | step ha _ ih =>
    cases h' with
    | done hk => rw [List.getElem?_eq_none hk] at ha; cases ha
    | step ha' h2 => rw [ha] at ha'; cases ha'; exact ih h2
theorem Ord.det {g : Gr} {row r r' : List Int} (h : Ord g row r) (h' : Ord g row r') : r = r' := by
  induction h with
  | done hk =>
    cases h' with
    | done _ => rfl
    | step ha _ _ => exact absurd hk ha
  | step ha h1 _ ih =>
    cases h' with
    | done hk => exact absurd hk ha
    | step _ h1' h2 => exact ih (h1.det h1' ▸ h2)
theorem IsOrder.det {g : Gr} {roots b l b' l' : List Int} (h : IsOrder g roots b l) (h' : IsOrder g roots b' l') : b = b' ∧ l = l' := by
  obtain ⟨h1, h2⟩ := h
  obtain ⟨h3, h4⟩ := h'
  have e := h1.det h3
  subst e
  exact ⟨rfl, h2.det h4⟩
theorem Ord.app {g : Gr} {row r : List Int} (h : Ord g row r) : ∃ t, r = row ++ t := by
  induction h with
  | done _ => exact ⟨[], by simp⟩
  | step _ h1 _ ih =>
    rename_i row r1 _ _ _
    obtain ⟨t, rfl⟩ := ih
    obtain ⟨t1, rfl⟩ := h1.app
    obtain ⟨t2, h2⟩ := passL_app g row row
    exact ⟨t2 ++ t1 ++ t, by rw [h2]; simp [List.append_assoc]⟩
theorem Ord.has {g : Gr} {row r : List Int} (h : Ord g row r) (hn : ∀ x ∈ row, g.has x = true) : ∀ x ∈ r, g.has x = true := by
  induction h with
  | done _ => exact hn
  | step _ h1 _ ih => exact ih (h1.has (passL_has _ hn))
theorem IsOrder.has {g : Gr} {roots b l : List Int} (h : IsOrder g roots b l) : (∀ x ∈ b, g.has x = true) ∧ ∀ x ∈ l, g.has x = true :=
  have hb := h.strong.has fun x hx => (layL_new hx).elim (fun h => by cases h) (·.1)
  ⟨hb, h.all.has hb⟩
theorem IsOrder.sub {g : Gr} {roots b l : List Int} (h : IsOrder g roots b l) {x : Int} (hx : x ∈ b) : x ∈ l := by
  obtain ⟨t, e⟩ := h.all.app
  rw [e]; exact List.mem_append_left _ hx
theorem IsOrder.roots {g : Gr} {roots b l : List Int} (h : IsOrder g roots b l) {x : Int} (hx : x ∈ roots) (hh : g.has x = true) : x ∈ b := by
  obtain ⟨t, e⟩ := h.strong.app
  rw [e]; exact List.mem_append_left _ (layL_mem _ _ hx hh)
/-- the first k were visited -/
def CloG (g : Gr) (row : List Int) (k : Nat) : Prop := ∀ (i : Nat) (a x : Int), i < k → row[i]? = some a → x ∈ g.leads a → g.has x = true → x ∈ row
theorem CloG.app {g : Gr} {row t : List Int} {k : Nat} (hk : k ≤ row.length) (h : CloG g row k) : CloG g (row ++ t) k := fun i a x hi ha hx hh => by
  rw [List.getElem?_append_left (by omega)] at ha
  exact List.mem_append_left _ (h i a x hi ha hx hh)
theorem Thr.clo {g : Gr} {row r : List Int} {k : Nat} (h : Thr g row k r) (hk : k ≤ row.length) (hc : CloG g row k) : CloG g r r.length := by
  induction h with
  | done hk2 => intro i a x hi ha hx hh; exact hc i a x (by omega) ha hx hh
  | step ha _ ih =>
    rename_i row k a _ _
    have hlt := (List.getElem?_eq_some_iff.1 ha).1
    obtain ⟨t, h1, -⟩ := layL_app g.has row (g.leads a)
    refine ih (by rw [h1, List.length_append]; omega) fun i b x hi hb hx hh => ?_
    by_cases e : i = k
    · subst e
      rw [h1, List.getElem?_append_left hlt, ha] at hb
      cases hb
      exact layL_mem _ _ hx hh
    · rw [h1] at hb ⊢
      exact (CloG.app hk hc (t := t)) i b x (by omega) hb hx hh
theorem passL_fix {g : Gr} : ∀ {row as : List Int}, passL g row as = row → ∀ a ∈ as, ∀ x ∈ g.opens row a, g.has x = true → x ∈ row
  | row, b :: as, h, a, ha, x, hx, hh => by
    have h1 : layL g.has row (g.opens row b) = row := by
      obtain ⟨t, e1, -⟩ := layL_app g.has row (g.opens row b)
      obtain ⟨t2, e2⟩ := passL_app g (layL g.has row (g.opens row b)) as
      have h3 : row ++ t ++ t2 = row := by rw [← e1, ← e2]; exact h
      have h4 := congrArg List.length h3
      simp only [List.length_append] at h4
      have h5 : t = [] := List.eq_nil_of_length_eq_zero (by omega)
      rw [e1, h5, List.append_nil]
    rcases List.mem_cons.1 ha with e | ha
    · subst e; have := layL_mem row _ hx hh; rwa [h1] at this
    · refine passL_fix (as := as) ?_ a ha x hx hh
      unfold passL at h; rw [h1] at h; exact h
theorem Ord.closed {g : Gr} {row r : List Int} (h : Ord g row r) (hc : CloG g row row.length) : CloG g r r.length ∧ ∀ a ∈ r, ∀ x ∈ g.opens r a, g.has x = true → x ∈ r := by
  induction h with
  | done hp => exact ⟨hc, passL_fix hp⟩
  | step _ h1 _ ih =>
    rename_i row _ _ _ _
    obtain ⟨t, e⟩ := passL_app g row row
    refine ih (h1.clo (by rw [e, List.length_append]; omega) ?_)
    rw [e]; exact hc.app (Nat.le_refl _)
theorem IsOrder.closed {g : Gr} {roots b l : List Int} (h : IsOrder g roots b l) : (∀ a ∈ l, ∀ x ∈ g.leads a, g.has x = true → x ∈ l) ∧ ∀ a ∈ l, ∀ x ∈ g.opens l a, g.has x = true → x ∈ l := by
  obtain ⟨h1, h2⟩ := h.all.closed (h.strong.clo (Nat.zero_le _) fun i _ _ hi => absurd hi (by omega))
  refine ⟨fun a ha x hx hh => ?_, h2⟩
  obtain ⟨i, hi, e⟩ := List.getElem_of_mem ha
  exact h1 i a x hi (by rw [List.getElem?_eq_getElem hi, e]) hx hh
/-- what is closed holds what is discovered -/
structure ClosedS (g : Gr) (S : Int → Prop) : Prop where
  leads : ∀ a, S a → ∀ x ∈ g.leads a, g.has x = true → S x
  opens : ∀ row : List Int, (∀ x ∈ row, S x) → ∀ a, S a → ∀ x ∈ g.opens row a, g.has x = true → S x
theorem layL_in {has : Int → Bool} {S : Int → Prop} {row l : List Int} (h1 : ∀ x ∈ row, S x) (h2 : ∀ x ∈ l, has x = true → S x) : ∀ x ∈ layL has row l, S x := fun x hx => (layL_new hx).elim (h1 x) fun ⟨h3, h4⟩ => h2 x h4 h3
theorem Thr.in_ {g : Gr} {S : Int → Prop} (hS : ClosedS g S) {row r : List Int} {k : Nat} (h : Thr g row k r) (hr : ∀ x ∈ row, S x) : ∀ x ∈ r, S x := by
  induction h with
  | done _ => exact hr
  | step ha _ ih => exact ih (layL_in hr (hS.leads _ (hr _ (List.mem_of_getElem? ha))))
theorem passL_in {g : Gr} {S : Int → Prop} (hS : ClosedS g S) : ∀ {row as : List Int}, (∀ x ∈ row, S x) → (∀ x ∈ as, S x) → ∀ x ∈ passL g row as, S x
  | _, [], h, _ => h
  | row, a :: as, h, h2 => passL_in hS (row := layL g.has row (g.opens row a)) (layL_in h (hS.opens _ h a (h2 a (by simp)))) fun x hx => h2 x (by simp [hx])
theorem Ord.in_ {g : Gr} {S : Int → Prop} (hS : ClosedS g S) {row r : List Int} (h : Ord g row r) (hr : ∀ x ∈ row, S x) : ∀ x ∈ r, S x := by
  induction h with
  | done _ => exact hr
  | step _ h1 _ ih => exact ih (h1.in_ hS (passL_in hS hr hr))
theorem IsOrder.in_ {g : Gr} {S : Int → Prop} (hS : ClosedS g S) {roots b l : List Int} (h : IsOrder g roots b l) (hr : ∀ x ∈ roots, g.has x = true → S x) : ∀ x ∈ l, S x :=
  h.all.in_ hS (h.strong.in_ hS (layL_in (fun _ h => by cases h) hr))
/-- the same discoveries, where the cells that are reached are the same -/
theorem Thr.congr {g g' : Gr} (hh : g'.has = g.has) {row r : List Int} {k : Nat} (h : Thr g row k r) : (∀ a ∈ r, g'.leads a = g.leads a) → Thr g' row k r := by
  induction h with
  | done hk => exact fun _ => .done hk
  | step ha h1 ih =>
    rename_i row k a _
    intro hl
    refine .step ha ?_
    rw [hh, hl a ?_]
    · exact ih hl
    · obtain ⟨t, e⟩ := h1.app
      rw [e]; exact List.mem_append_left _ (layL_old (List.mem_of_getElem? ha))
theorem passL_congr {g g' : Gr} (hh : g'.has = g.has) : ∀ {row as : List Int}, (∀ a ∈ as, ∀ row, g'.opens row a = g.opens row a) → passL g' row as = passL g row as
  | _, [], _ => rfl
  | _, a :: as, h => by
    unfold passL
    rw [hh, h a (by simp), passL_congr hh fun b hb => h b (by simp [hb])]
theorem Ord.congr {g g' : Gr} (hh : g'.has = g.has) {row r : List Int} (h : Ord g row r) : (∀ a ∈ r, g'.leads a = g.leads a ∧ ∀ row, g'.opens row a = g.opens row a) → Ord g' row r := by
  induction h with
  | done hp => exact fun hl => .done (by rw [passL_congr hh fun a ha => (hl a ha).2]; exact hp)
  | step hp h1 h2 ih =>
    rename_i row r1 r
    intro hl
    obtain ⟨t, e⟩ := h2.app
    obtain ⟨t1, e1⟩ := h1.app
    obtain ⟨t2, e2⟩ := passL_app g row row
    have hr : ∀ a ∈ row, a ∈ r := fun a ha => by rw [e, e1, e2]; simp [ha]
    have hc : passL g' row row = passL g row row := passL_congr hh fun a ha => (hl a (hr a ha)).2
    refine .step (by rw [hc]; exact hp) ?_ (ih hl)
    rw [hc]
    exact h1.congr hh fun a ha => (hl a (by rw [e]; exact List.mem_append_left _ ha)).1
theorem IsOrder.congr {g g' : Gr} (hh : g'.has = g.has) {roots b l : List Int} (h : IsOrder g roots b l) (hl : ∀ a ∈ l, g'.leads a = g.leads a ∧ ∀ row, g'.opens row a = g.opens row a) : IsOrder g' roots b l :=
  ⟨by rw [hh]; exact h.strong.congr hh fun a ha => (hl a (h.sub ha)).1, h.all.congr hh hl⟩
end Go.Proofs.Ytmbaennilhdieaa
