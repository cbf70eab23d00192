/- An argument's reading, turned into chunks. Over any program. -/
import Derived.Test.YtmbaennilhdieaaA11
import Derived.Test.YtmbaennilhdieaaRead
namespace Go.Proofs.Ytmbaennilhdieaa
open Go.RowKit Go.ChangeShapes Go.WideShapes Go.Deep

/-- what a reading of type t tells: the cells are those of a datum, whose deep parts lie in old blocks -/
def Rdr {α : Type} (P : Program) (t : TypeId) (R : Rep α) (wf : α → Prop) : Prop := ∀ {H : Type} {enc : TypeId × Value → H} {w : World} {base : Nat} {spare : Nat → Bool} {held : Bool} {n : Nat} {cs : List Value} {y : DataW H × List MemPlace}, DataW.trod enc P w base spare held n t cs = some y → ∃ a, R.rel (fun q => q < w.heap.size) w cs a ∧ wf a
theorem in64_wf {a : Int} (h : (Lit.int .i64 a).wf = true) : in64 a := by
  have e1 : IntKind.i64.min = -9223372036854775808 := rfl
  have e2 : IntKind.i64.max = 9223372036854775807 := rfl
  unfold Lit.wf at h
  simp only [e1, e2, Bool.and_eq_true, decide_eq_true_eq] at h
  exact h
theorem rdr_int {P : Program} {t : TypeId} (ht : P.underlying t = some (.int .i64)) : Rdr P t (rInt .i64) in64 := fun h => by
  obtain ⟨a, r, hw⟩ := DataW.trod_int ht h
  exact ⟨a, r, by first | exact in64_wf hw | exact in64_wf hw.1 | exact in64_wf hw.2⟩
theorem rdr_bool {P : Program} {t : TypeId} (ht : P.underlying t = some .bool) : Rdr P t rBool (fun _ => True) := fun h => by
  obtain ⟨a, r, -⟩ := DataW.trod_bool ht h
  exact ⟨a, r, trivial⟩
theorem rdr_str {P : Program} {t : TypeId} (ht : P.underlying t = some .string) : Rdr P t rStr (fun _ => True) := fun h => by
  obtain ⟨a, r, -⟩ := DataW.trod_string ht h
  exact ⟨a, r, trivial⟩
theorem rows_of_cells {α : Type} {R : Rep α} {S : Nat → Prop} {w : World} {b o : Nat} : ∀ (k : Nat) (vss : List (List Value)) (xs : List α), All2 (R.rel S w) vss xs → (∀ (i : Nat) (vs : List Value), vss[i]? = some vs → CellsAt w b (o + (k + i) * R.sz) vs) → CellsAt w b (o + k * R.sz) vss.flatten
  | _, _, _, .nil, _ => fun j u hj => by simp at hj
  | k, _, _, .cons (a := a) (l := l) h1 h2, hc => fun j u hj => by
    rw [List.flatten_cons] at hj
    by_cases hlt : j < a.length
    · rw [List.getElem?_append_left hlt] at hj
      have := hc 0 a rfl j u hj
      simpa using this
    · rw [List.getElem?_append_right (by omega)] at hj
      have h3 := rows_of_cells (k + 1) _ _ h2 (fun i vs hi => by have := hc (i + 1) vs (by simpa using hi); rwa [show k + 1 + i = k + (i + 1) by omega])
      have h4 := h3 _ _ hj
      rw [R.len h1] at h4 hlt
      rw [show o + k * R.sz + j = o + (k + 1) * R.sz + (j - R.sz) by rw [Nat.add_mul]; omega]
      exact h4
theorem all2_ofFn {α : Type} {R : List Value → α → Prop} : ∀ {n : Nat} (f : _root_.Fin n → List Value) (g : _root_.Fin n → α), (∀ i, R (f i) (g i)) → All2 R (List.ofFn f) (List.ofFn g)
  | 0, _, _, _ => by simp; exact .nil
  | n + 1, f, g, h => by rw [List.ofFn_succ, List.ofFn_succ]; exact .cons (h 0) (all2_ofFn _ _ fun i => h i.succ)
theorem rdr_sl {P : Program} {α : Type} {R : Rep α} {wf : α → Prop} {t e : TypeId} (ht : P.underlying t = some (.slice e)) (hsz : P.cellsOf e = R.sz) (hpos : 0 < R.sz) (he : Rdr P e R wf) : Rdr P t R.sl (fun xs => ∀ x ∈ xs, wf x) := fun {H enc w base spare held n cs y} h => by
  rcases open_slice ht h with ⟨rfl, -⟩ | ⟨a, len, cap, m, n, D, Pl, rfl, hb, hl, hm, hmm, -, hi⟩
  · exact ⟨[], ⟨_, rfl, slR_nil _ _ _⟩, fun _ h => by cases h⟩
  · have hlm : len ≤ m := by rw [hmm]; split <;> omega
    rw [hsz] at hi
    have key : ∀ i : _root_.Fin len, ∃ q : List Value × α, w.cells? base (a.add (i * R.sz)) R.sz = some q.1 ∧ R.rel (fun q => q < w.heap.size) w q.1 q.2 ∧ wf q.2 := fun i => by
      obtain ⟨cs', h1, h2⟩ := hi i (by omega)
      obtain ⟨a', h3, h4⟩ := he h2
      exact ⟨(cs', a'), h1, h3, h4⟩
    let f : _root_.Fin len → List Value × α := fun i => Classical.choose (key i)
    have hf : ∀ i : _root_.Fin len, w.cells? base (a.add (i * R.sz)) R.sz = some (f i).1 ∧ R.rel (fun q => q < w.heap.size) w (f i).1 (f i).2 ∧ wf (f i).2 := fun i => Classical.choose_spec (key i)
    have hlen : (List.ofFn fun i => (f i).2).length = len := by simp
    unfold maxLen at hm
    refine ⟨List.ofFn fun i => (f i).2, ⟨_, rfl, some a, cap, by rw [hlen], by rw [hlen]; exact hl, hm, fun h0 => ?_⟩, fun x hx => ?_⟩
    · rw [hlen] at h0
      obtain ⟨-, hl0, hat0⟩ := World.cells?_some (hf ⟨0, h0⟩).1
      have hc0 := hat0 0 hpos
      have hll : (f ⟨0, h0⟩).1.length = R.sz := R.len (hf ⟨0, h0⟩).2.1
      have hz : (f ⟨0, h0⟩).1[0]? = some ((f ⟨0, h0⟩).1[0]'(by omega)) := List.getElem?_eq_getElem (by omega)
      rw [hz] at hc0
      have ha0 : (a.add ((⟨0, h0⟩ : _root_.Fin len) * R.sz)).add 0 = a := by simp [Addr.add]
      rw [ha0] at hc0
      have ha := plain_of_cell hc0
      refine ⟨a.block, a.off, List.ofFn fun i => (f i).1, by rw [← ha], block_lt_of_cell hc0, block_lt_of_cell hc0, all2_ofFn _ _ fun i => (hf i).2.1, ?_⟩
      have hall := all2_ofFn (R := R.rel (fun q => q < w.heap.size) w) (fun i => (f i).1) (fun i => (f i).2) fun i => (hf i).2.1
      have := rows_of_cells (b := a.block) (o := a.off) 0 _ _ hall (fun i vs hi => by
        have hil : i < len := by have := (List.getElem?_eq_some_iff.1 hi).1; simpa using this
        have hvs : vs = (f ⟨i, hil⟩).1 := by
          rw [List.getElem?_ofFn] at hi
          simp [hil] at hi
          exact hi.symm
        subst hvs
        obtain ⟨-, hl1, hat1⟩ := World.cells?_some (hf ⟨i, hil⟩).1
        intro j u hu
        have hj : j < R.sz := by rw [← R.len (hf ⟨i, hil⟩).2.1]; exact (List.getElem?_eq_some_iff.1 hu).1
        have h3 := hat1 j hj
        rw [hu, ha, add_plain, add_plain] at h3
        rw [Nat.zero_add]
        exact h3)
      simpa using this
    · obtain ⟨i, rfl⟩ := List.mem_ofFn.1 hx
      exact (hf i).2.2
/-- what holds at the start of a call: the old world, and the arguments' slices -/
theorem start_old (w : World) : SepL [oldC w] w := ⟨fun _ _ => False, fun q => q < w.heap.size, fun {i c} hi => by
  cases i with
  | zero => simp only [List.getElem?_cons_zero, Option.some.injEq] at hi; subst hi; exact ⟨Ext.refl w, fun _ h => h⟩
  | succ i => simp at hi, fun _ h => h.elim, fun h => h.elim, fun h => h.elim, fun h => h⟩
theorem start_cons {w : World} {L : List Chunk} {c : Chunk} (h : ∃ T, SepT (L ++ [oldC w]) T (fun q => q < w.heap.size) w) (hc : c.ok (fun _ => False) (fun q => q < w.heap.size) w) : ∃ T, SepT ((c :: L) ++ [oldC w]) T (fun q => q < w.heap.size) w := by
  obtain ⟨T, h⟩ := h
  obtain ⟨T', h'⟩ := SepL.facts [c] h (mem_cons hc mem_nil)
  exact ⟨T', h'⟩
theorem start_nil (w : World) : ∃ T, SepT ([] ++ [oldC w]) T (fun q => q < w.heap.size) w := ⟨fun _ _ => False, fun {i c} hi => by
  cases i with
  | zero => simp only [List.nil_append, List.getElem?_cons_zero, Option.some.injEq] at hi; subst hi; exact ⟨Ext.refl w, fun _ h => h⟩
  | succ i => simp at hi, fun _ h => h.elim, fun h => h.elim, fun h => h.elim, fun h => h⟩
/-- a law's contract, as the top wants it -/
theorem calls_of_okc {P : Program} {f : FuncId} {args : List Value} {L : List Chunk} {w : World} (h : Okc P f args L fun u post => u = .bool true ∧ post = []) (hs : ∃ T, SepT (L ++ [oldC w]) T (fun q => q < w.heap.size) w) : Calls P f args.toArray w fun e w' => e = .returned (.bool true) ∧ Ext w w' := by
  obtain ⟨T, hT⟩ := hs
  refine (h [oldC w] w ⟨T, _, hT⟩).mono ?_
  rintro e w' ⟨u, post, rfl, h2, rfl, rfl⟩
  obtain ⟨T2, S2, h3, -⟩ := SepL.get h2 (i := 0) (c := oldC w) rfl
  exact ⟨rfl, h3⟩
end Go.Proofs.Ytmbaennilhdieaa
