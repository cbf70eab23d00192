/- Targets of package code: sorting and compacting what was collected. -/
import Derived.Test.YtagdompikjhnoaaTargets
import Derived.Test.YtagdompikjhnoaaShelf
namespace Go.Proofs.Ytagdompikjhnoaa
open Go.RowKit Go.Lib Go.Sort

abbrev encI (z : Int) : Value := .int .i64 z
def sortL (zs : List Int) : List Int := zs.mergeSort fun x y => decide (x ≤ y)
theorem sortL_len (zs : List Int) : (sortL zs).length = zs.length := by simp [sortL]

theorem own_ext {w w' : World} {base n : Nat} {v : Value} {xs : List Value} (h : w.ownsRow base 3 1 v n xs) (hb : Ext w w') : w'.ownsRow base 3 1 v n xs := by
  refine ⟨h.1, ?_⟩
  rcases h.2 with h3 | ⟨g, cap, cur, e, hg, hh, r⟩
  · exact .inl h3
  · exact .inr ⟨g, cap, cur, e, hg, (Blk.ext (t := 3) hh hb), r⟩
theorem ext_grow (w : World) (os : Array Obj) : Ext w (grow w os) := ⟨rfl, rfl, rfl, by simp, fun _ hk => heap_grow_old w os hk⟩
theorem ext_ahead (w : World) (n : Nat) : Ext w (Sort.ahead w n) := ⟨rfl, rfl, rfl, Nat.le_refl _, fun _ _ => rfl⟩
theorem putRow_far {w : World} {g q b : Nat} {d : Array Int} {t : TypeId} {cs : Array Value} (h : Blk w b t cs) (hne : b ≠ g) : Blk (putRow encI (Sort.ahead w q) g 0 d) b t cs := by
  unfold Blk at h ⊢
  simp [putRow, mapBlock, Sort.ahead, Array.getElem?_modify, Ne.symm hne, h]

def SortPost (w0 w : World) (v : Value) (zs : List Int) (e : Ending) (w' : World) : Prop :=
  e = .returned (.tuple #[]) ∧ w'.ownsRow w0.heap.size 3 1 v zs.length (zs.map encI) ∧ Ext w0 w' ∧ ∀ b t cs, Blk w b t cs → t ≠ 3 → Blk w' b t cs

theorem sort_own (w0 w : World) (v : Value) (zs : List Int) (hz : zs.length ≤ 100000) (ho : w.ownsRow w0.heap.size 3 1 v zs.length (zs.map encI)) (hE : Ext w0 w) :
    Calls Try.prog 45 #[v] w (SortPost w0 w v (sortL zs)) := by
  by_cases hv : v = .slice none 0 0
  · subst hv
    have hn : zs = [] := by
      rcases ho.2 with ⟨_, h⟩ | ⟨g, cap, cur, e, _⟩
      · exact List.eq_nil_of_length_eq_zero h
      · cases e
    subst hn
    refine (Try.slices_Sort_int_none none 0 w).mono ?_
    rintro e w' ⟨rfl, rfl⟩
    have e0 : sortL [] = [] := by simp [sortL]
    rw [e0]
    exact ⟨rfl, ho, hE, fun _ _ _ h _ => h⟩
  · obtain ⟨g, cap, rfl, hg, hlt, hn, hm, -, hH⟩ := holds_of_ownsRow ho hv
    refine (Try.slices_Sort_int g 0 cap zs w hH hlt (by omega)).mono ?_
    rintro e w' ⟨rfl, n, os, rfl⟩
    have h1 := ownsRow_putRow (q := n) (ys := sortL zs) (k := zs.length) ho (sortL_len zs) (Nat.le_refl _)
    rw [List.take_of_length_le (by rw [sortL_len]; exact Nat.le_refl _)] at h1
    refine ⟨rfl, ?_, ?_, fun b t cs hb ht => ?_⟩
    · rw [sortL_len]
      exact own_ext h1 (ext_grow _ _)
    · exact Ext.trans (below_putRow hE hg) (ext_grow _ _)
    · have hne : b ≠ g := by
        rcases ho.2 with ⟨h, _⟩ | ⟨g', cap', cur, e, _, hh, _⟩
        · exact absurd h hv
        · injection e with e _ _
          injection e with e
          injection e with e _ _
          subst e
          exact blk_ne hb (show Blk w g 3 cur from hh) ht
      exact (putRow_far hb hne).ext (ext_grow _ _)

def CompPost (w0 : World) (zs : List Int) (e : Ending) (w' : World) : Prop :=
  ∃ v, e = .returned v ∧ w'.ownsRow w0.heap.size 3 1 v zs.length (zs.map encI) ∧ Ext w0 w'

theorem comp_own (w0 w : World) (v : Value) (zs : List Int) (hz : zs.length ≤ 100000) (ho : w.ownsRow w0.heap.size 3 1 v zs.length (zs.map encI)) (hE : Ext w0 w) :
    Calls Try.prog 46 #[v] w (CompPost w0 (Lib.compact zs)) := by
  by_cases hv : v = .slice none 0 0
  · subst hv
    have hn : zs = [] := by
      rcases ho.2 with ⟨_, h⟩ | ⟨g, cap, cur, e, _⟩
      · exact List.eq_nil_of_length_eq_zero h
      · cases e
    subst hn
    refine (Try.slices_Compact_int_empty none 0 w).mono ?_
    rintro e w' ⟨rfl, rfl⟩
    exact ⟨_, rfl, ho, hE⟩
  · obtain ⟨g, cap, rfl, hg, hlt, hn, hm, -, hH⟩ := holds_of_ownsRow ho hv
    refine (Try.slices_Compact_int g 0 cap zs w hH (by omega) hn).mono ?_
    rintro e w' ⟨rfl, n, rfl⟩
    have hcl : (Lib.compact zs).length ≤ zs.length := by
      unfold Lib.compact compactUpTo
      rw [List.length_map]
      exact Nat.le_trans (List.length_filter_le _ _) (by simp)
    have h1 := ownsRow_putRow (q := n) (ys := Lib.compact zs ++ List.replicate (zs.length - (Lib.compact zs).length) 0) (k := (Lib.compact zs).length) ho (by simp; omega) hcl
    rw [List.take_left] at h1
    exact ⟨_, rfl, h1, below_putRow hE hg⟩
end Go.Proofs.Ytagdompikjhnoaa
