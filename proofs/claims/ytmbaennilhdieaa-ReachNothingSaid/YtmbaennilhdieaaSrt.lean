/- slices.Sort at []int, in the words of chunks. -/
import Derived.Test.YtmbaennilhdieaaA18
import Derived.Test.YtmbaennilhdieaaShelf
import Derived.Lib.OwnBridge
namespace Go.Proofs.Ytmbaennilhdieaa
open Go.RowKit Go.Lib Go.Sort

abbrev encI (z : Int) : Value := .int .i64 z
def sortL (zs : List Int) : List Int := zs.mergeSort fun x y => decide (x ≤ y)
theorem sortL_len (zs : List Int) : (sortL zs).length = zs.length := by simp [sortL]
theorem own_ext {w w' : World} {base n : Nat} {v : Value} {xs : List Value} (h : w.ownsRow base 3 1 v n xs) (hb : Ext w w') : w'.ownsRow base 3 1 v n xs := by
  refine ⟨h.1, ?_⟩
  rcases h.2 with h3 | ⟨g, cap, cur, e, hg, hh, r⟩
  · exact .inl h3
  · exact .inr ⟨g, cap, cur, e, hg, (Blk.ext (t := 3) hh hb), r⟩
theorem ext_grow (w : World) (os : Array Obj) : Ext w (grow w os) := ⟨rfl, rfl, rfl, by simp, fun _ hk => heap_grow_old w os hk⟩
theorem flat_ints {S : Nat → Prop} {w : World} {vss : List (List Value)} {xs : List Int} (h : All2 ((rInt .i64).rel S w) vss xs) : vss.flatten = xs.map encI := by
  induction h with
  | nil => rfl
  | cons h1 h2 ih =>
    simp only [List.flatten_cons, List.map_cons, ih]
    rw [show _ = _ from h1]
    rfl
theorem rows_ints (S : Nat → Prop) (w : World) : ∀ (xs : List Int), All2 ((rInt .i64).rel S w) (xs.map fun x => [.int .i64 x]) xs
  | [] => .nil
  | x :: xs => .cons rfl (rows_ints S w xs)
theorem flat_map (xs : List Int) : ((xs.map fun x => [Value.int .i64 x])).flatten = xs.map encI := by
  induction xs with
  | nil => rfl
  | cons x l ih => simp only [List.map_cons, List.flatten_cons, ih]; rfl
def slices_Sort_O (_ : Nat) (a0 : List Int) : Option (List Int) := req (fitsL a0.length) (some (sortL a0))
theorem slices_Sort_ok {N : Nat} {a0 : List Int} {r : List Int} (h : slices_Sort_O N a0 = some r) {A : Option Addr} {n c : Nat} : Okc Try.prog 48 [.slice A n c] [ownC (rInt .i64) 3 (.slice A n c) a0] fun u post => u = .tuple #[] ∧ post = [ownC (rInt .i64) 3 (.slice A n c) r] := fun Z w hw => by
  obtain ⟨hf, h⟩ := req_elim h
  obtain rfl := Option.some.inj h
  have hw0 := hw
  obtain ⟨T, S, hT⟩ := hw
  obtain ⟨vss, g1, g2⟩ := hT.ok (i := 0) (c := ownC (rInt .i64) 3 (.slice A n c) a0) rfl
  have none_ : a0 = [] → n = 0 → Calls Try.prog 48 #[.slice A n c] w fun e w' => ∃ v post, e = .returned v ∧ Sp Z post w' ∧ v = .tuple #[] ∧ post = [ownC (rInt .i64) 3 (.slice A n c) (sortL a0)] := by
    rintro rfl rfl
    refine (Try.slices_Sort_int_none A c w).mono ?_
    rintro e w' ⟨rfl, rfl⟩
    have e0 : sortL [] = [] := by simp [sortL]
    rw [e0]
    exact ⟨_, _, rfl, hw0, rfl, rfl⟩
  rcases g2 with ⟨ho, h3⟩ | ⟨h0, A', e⟩
  · by_cases hv : (Value.slice A n c) = .slice none 0 0
    · have hn : a0 = [] := by
        rcases ho.2 with ⟨_, h⟩ | ⟨g, cap, cur, e, _⟩
        · exact List.eq_nil_of_length_eq_zero h
        · rw [hv] at e; cases e
      injection hv with _ e2 _
      exact none_ hn e2
    · have ho1 := ho
      rw [flat_ints g1] at ho1
      obtain ⟨g, cap, e, hg, hlt, hn, hm, -, hH⟩ := holds_of_ownsRow ho1 hv
      injection e with e1 e2 e3
      subst e1 e2 e3
      refine (Try.slices_Sort_int g 0 c a0 w hH hlt (by unfold fitsL at hf; omega)).mono ?_
      rintro e w' ⟨rfl, k, os, rfl⟩
      refine ⟨_, _, rfl, ?_, rfl, rfl⟩
      have hTg : T 0 g := h3 g rfl
      have h1 := ownsRow_putRow (q := k) (ys := sortL a0) (k := a0.length) ho1 (sortL_len a0) (Nat.le_refl _)
      rw [List.take_of_length_le (by rw [sortL_len]; exact Nat.le_refl _)] at h1
      have h2 := own_ext h1 (ext_grow _ os)
      refine hT.upd (i := 0) (c := ownC (rInt .i64) 3 (.slice (some ⟨g, 0, none⟩) a0.length c) a0) rfl (T' := T 0) ⟨rfl, rfl, rfl, by simp [putRow, mapBlock, Sort.ahead], fun q hq hn => ?_⟩ (fun _ => .inl) (fun q hq => Nat.lt_of_lt_of_le (hT.lt hq) (by simp [putRow, mapBlock, Sort.ahead])) ?_
      · have hne : q ≠ g := fun e => hn (e ▸ hTg)
        rw [heap_grow_old _ os (by simpa [putRow, mapBlock, Sort.ahead] using hq)]
        simp [putRow, mapBlock, Sort.ahead, Array.getElem?_modify, Ne.symm hne]
      · refine ⟨(sortL a0).map fun x => [.int .i64 x], rows_ints _ _ _, .inl ⟨?_, h3⟩⟩
        rw [flat_map, sortL_len]
        exact h2
  · injection e with e1 e2 e3
    exact none_ (List.eq_nil_of_length_eq_zero h0) e2
end Go.Proofs.Ytmbaennilhdieaa
