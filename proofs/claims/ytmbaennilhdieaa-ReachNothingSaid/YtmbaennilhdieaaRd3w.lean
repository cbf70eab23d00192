/- An argument's reading, with the bound on what it weighs. Over any program. -/
import Derived.Test.YtmbaennilhdieaaRd3
import Derived.SizedLaws
namespace Go.Proofs.Ytmbaennilhdieaa
open Go.RowKit Go.ChangeShapes Go.WideShapes Go.Deep

structure Light {H : Type} (P : Program) (t : TypeId) (d : DataW H) : Prop where
  le : ∀ n ∈ d.weights P t, n ≤ reachBytes
def Rdrw {α : Type} (P : Program) (t : TypeId) (R : Rep α) (wf : α → Prop) : Prop := ∀ {H : Type} {enc : TypeId × Value → H} {w : World} {base : Nat} {spare : Nat → Bool} {held : Bool} {n : Nat} {cs : List Value} {y : DataW H × List MemPlace}, DataW.trod enc P w base spare held n t cs = some y → Light P t y.1 → ∃ a, R.rel (fun q => q < w.heap.size) w cs a ∧ wf a
/-- a list that is not too long, whose elements are well-formed -/
def WfL {α : Type} (wf : α → Prop) (xs : List α) : Prop := xs.length ≤ reachBytes ∧ ∀ x ∈ xs, wf x
theorem Rdr.w {α : Type} {P : Program} {t : TypeId} {R : Rep α} {wf : α → Prop} (h : Rdr P t R wf) : Rdrw P t R wf := fun h1 _ => h h1
theorem weightsAll_mem {H : Type} {P : Program} {e : TypeId} : ∀ {l : List (DataW H)} {d : DataW H}, d ∈ l → ∀ n ∈ d.weights P e, n ∈ DataW.weightsAll P e l
  | d :: l, d', h, n, hn => by
    unfold DataW.weightsAll
    rcases List.mem_cons.1 h with rfl | h
    · exact List.mem_append_left _ hn
    · exact List.mem_append_right _ (weightsAll_mem h n hn)
theorem wt_struct {H : Type} {P : Program} {t : TypeId} {fs : Array Field} (ht : P.underlying t = some (.struct fs)) {xs : List (DataW H × List MemPlace)} {pl : List MemPlace} {y0 : DataW H × List MemPlace} (hy : y0 = (.agg (xs.map (·.1)), pl)) (h : Light P t y0.1) {i : Nat} {f : Field} (hf : fs[i]? = some f) {y : DataW H × List MemPlace} (hx : xs[i]? = some y) : Light P f.type y.1 := ⟨fun n hn => by
  subst hy
  refine h.le n ?_
  show n ∈ DataW.weights P t (.agg (xs.map (·.1)))
  unfold DataW.weights
  rw [ht]
  exact DataW.weights_mem_each (j := i) (t := f.type) (d := y.1) (by simp [hf]) (by simp [hx]) n hn⟩
theorem rdrw_sl {P : Program} {α : Type} {R : Rep α} {wf : α → Prop} {t e : TypeId} (ht : P.underlying t = some (.slice e)) (hsz : P.cellsOf e = R.sz) (hpos : 0 < R.sz) (hb : 0 < P.bytesOf e) (he : Rdrw P e R wf) : Rdrw P t R.sl (WfL wf) := fun {H enc w base spare held n cs y} h hw => by
  rcases open_slice ht h with ⟨rfl, -⟩ | ⟨a, len, cap, m, n, D, Pl, rfl, hb0, hl, hm, hmm, hy, hi⟩
  · exact ⟨[], ⟨_, rfl, slR_nil _ _ _⟩, Nat.zero_le _, fun _ h => by cases h⟩
  · have hlm : len ≤ m := by rw [hmm]; split <;> omega
    rw [hsz] at hi
    have hwt : ((List.range len).map D).length * P.bytesOf e ≤ reachBytes ∧ ∀ i, i < len → Light P e (D i) := by
      rw [hy] at hw
      have hw' : ∀ n ∈ DataW.weights P t (.slice ((List.range len).map D) ((List.range (m - len)).map fun j => D (len + j))), n ≤ reachBytes := hw.le
      unfold DataW.weights at hw'
      rw [ht] at hw'
      simp only at hw'
      refine ⟨Nat.le_trans (Nat.mul_le_mul_right _ (Nat.le_add_right _ _)) (hw' _ (List.mem_cons_self ..)), fun i hi => ⟨fun n hn => hw' n (List.mem_cons_of_mem _ (List.mem_append_left _ (weightsAll_mem (List.mem_map.2 ⟨i, List.mem_range.2 hi, rfl⟩) n hn)))⟩⟩
    rw [List.length_map, List.length_range] at hwt
    have key : ∀ i : _root_.Fin len, ∃ q : List Value × α, w.cells? base (a.add (i * R.sz)) R.sz = some q.1 ∧ R.rel (fun q => q < w.heap.size) w q.1 q.2 ∧ wf q.2 := fun i => by
      obtain ⟨cs', h1, h2⟩ := hi i (by omega)
      obtain ⟨a', h3, h4⟩ := he h2 (hwt.2 i i.2)
      exact ⟨(cs', a'), h1, h3, h4⟩
    let f : _root_.Fin len → List Value × α := fun i => Classical.choose (key i)
    have hf : ∀ i : _root_.Fin len, w.cells? base (a.add (i * R.sz)) R.sz = some (f i).1 ∧ R.rel (fun q => q < w.heap.size) w (f i).1 (f i).2 ∧ wf (f i).2 := fun i => Classical.choose_spec (key i)
    have hlen : (List.ofFn fun i => (f i).2).length = len := by simp
    unfold maxLen at hm
    refine ⟨List.ofFn fun i => (f i).2, ⟨_, rfl, some a, cap, by rw [hlen], by rw [hlen]; exact hl, hm, fun h0 => ?_⟩, ?_, fun x hx => ?_⟩
    · rw [hlen] at h0
      obtain ⟨-, hl0, hat0⟩ := World.cells?_some (hf ⟨0, h0⟩).1
      have hc0 := hat0 0 hpos
      have hll : (f ⟨0, h0⟩).1.length = R.sz := R.len (hf ⟨0, h0⟩).2.1
      have hz : (f ⟨0, h0⟩).1[0]? = some ((f ⟨0, h0⟩).1[0]'(by omega)) := List.getElem?_eq_getElem (by omega)
      rw [hz] at hc0
      have ha0 : (a.add ((⟨0, h0⟩ : _root_.Fin len) * R.sz)).add 0 = a := by simp [Addr.add]
      rw [ha0] at hc0
      have ha := plain_of_cell hc0
      refine ⟨a.block, a.off, List.ofFn fun i => (f i).1, by rw [← ha], block_lt_of_cell hc0, block_lt_of_cell hc0, all2_ofFn _ _ fun i => (hf i).2.1, ?_⟩
      have hall := all2_ofFn (R := R.rel (fun q => q < w.heap.size) w) (fun i => (f i).1) (fun i => (f i).2) fun i => (hf i).2.1
      have := rows_of_cells (b := a.block) (o := a.off) 0 _ _ hall (fun i vs hi => by
        have hil : i < len := by have := (List.getElem?_eq_some_iff.1 hi).1; simpa using this
        have hvs : vs = (f ⟨i, hil⟩).1 := by
          rw [List.getElem?_ofFn] at hi
          simp [hil] at hi
          exact hi.symm
        subst hvs
        obtain ⟨-, hl1, hat1⟩ := World.cells?_some (hf ⟨i, hil⟩).1
        intro j u hu
        have hj : j < R.sz := by rw [← R.len (hf ⟨i, hil⟩).2.1]; exact (List.getElem?_eq_some_iff.1 hu).1
        have h3 := hat1 j hj
        rw [hu, ha, add_plain, add_plain] at h3
        rw [Nat.zero_add]
        exact h3)
      simpa using this
    · rw [hlen]
      exact Nat.le_trans (Nat.le_mul_of_pos_right _ hb) hwt.1
    · obtain ⟨i, rfl⟩ := List.mem_ofFn.1 hx
      exact (hf i).2.2
end Go.Proofs.Ytmbaennilhdieaa
