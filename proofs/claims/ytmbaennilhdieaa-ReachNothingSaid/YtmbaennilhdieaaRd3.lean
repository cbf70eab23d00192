/- An argument's reading, turned into chunks. Over any program. -/
import Derived.Test.YtmbaennilhdieaaA11
import Derived.Test.YtmbaennilhdieaaRead
namespace Go.Proofs.Ytmbaennilhdieaa
open Go.RowKit Go.ChangeShapes Go.WideShapes Go.Deep

/-- what a reading of type t tells: the cells are those of a datum, whose deep parts lie in old blocks -/
def Rdr {α : Type} (P : Program) (t : TypeId) (R : Rep α) (wf : α → Prop) : Prop := ∀ {H : Type} {enc : TypeId × Value → H} {w : World} {base : Nat} {spare : Nat → Bool} {held : Bool} {n : Nat} {cs : List Value} {y : DataW H × List MemPlace}, DataW.trod enc P w base spare held n t cs = some y → ∃ a, R.rel (fun q => q < w.heap.size) w cs a ∧ wf a
theorem in64_wf {a : Int} (h : (Lit.int .i64 a).wf = true) : in64 a := by
  have e1 : IntKind.i64.min = -9223372036854775808 := rfl
  have e2 : IntKind.i64.max = 9223372036854775807 := rfl
  unfold Lit.wf at h
  simp only [e1, e2, Bool.and_eq_true, decide_eq_true_eq] at h
  exact h
theorem rdr_int {P : Program} {t : TypeId} (ht : P.underlying t = some (.int .i64)) : Rdr P t (rInt .i64) in64 := fun h => by
  obtain ⟨a, r, hw⟩ := DataW.trod_int ht h
  exact ⟨a, r, by first | exact in64_wf hw | exact in64_wf hw.1 | exact in64_wf hw.2⟩
theorem rdr_str {P : Program} {t : TypeId} (ht : P.underlying t = some .string) : Rdr P t rStr (fun _ => True) := fun h => by
  obtain ⟨a, r, -⟩ := DataW.trod_string ht h
  exact ⟨a, r, trivial⟩
theorem rows_of_cells {α : Type} {R : Rep α} {S : Nat → Prop} {w : World} {b o : Nat} : ∀ (k : Nat) (vss : List (List Value)) (xs : List α), All2 (R.rel S w) vss xs → (∀ (i : Nat) (vs : List Value), vss[i]? = some vs → CellsAt w b (o + (k + i) * R.sz) vs) → CellsAt w b (o + k * R.sz) vss.flatten
  | _, _, _, .nil, _ => fun j u hj => by simp at hj
  | k, _, _, .cons (a := a) (l := l) h1 h2, hc => fun j u hj => by
    rw [List.flatten_cons] at hj
    by_cases hlt : j < a.length
    · rw [List.getElem?_append_left hlt] at hj
      have := hc 0 a rfl j u hj
      simpa using this
    · rw [List.getElem?_append_right (by omega)] at hj
      have h3 := rows_of_cells (k + 1) _ _ h2 (fun i vs hi => by have := hc (i + 1) vs (by simpa using hi); rwa [show k + 1 + i = k + (i + 1) by omega])
      have h4 := h3 _ _ hj
      rw [R.len h1] at h4 hlt
      rw [show o + k * R.sz + j = o + (k + 1) * R.sz + (j - R.sz) by rw [Nat.add_mul]; omega]
      exact h4
theorem all2_ofFn {α : Type} {R : List Value → α → Prop} : ∀ {n : Nat} (f : _root_.Fin n → List Value) (g : _root_.Fin n → α), (∀ i, R (f i) (g i)) → All2 R (List.ofFn f) (List.ofFn g)
  | 0, _, _, _ => by simp; exact .nil
  | n + 1, f, g, h => by rw [List.ofFn_succ, List.ofFn_succ]; exact .cons (h 0) (all2_ofFn _ _ fun i => h i.succ)
theorem start_cons {w : World} {L : List Chunk} {c : Chunk} (h : ∃ T, SepT (L ++ [oldC w]) T (fun q => q < w.heap.size) w) (hc : c.ok (fun _ => False) (fun q => q < w.heap.size) w) : ∃ T, SepT ((c :: L) ++ [oldC w]) T (fun q => q < w.heap.size) w := by
  obtain ⟨T, h⟩ := h
  obtain ⟨T', h'⟩ := SepL.facts [c] h (mem_cons hc mem_nil)
  exact ⟨T', h'⟩
theorem start_nil (w : World) : ∃ T, SepT ([] ++ [oldC w]) T (fun q => q < w.heap.size) w := ⟨fun _ _ => False, fun {i c} hi => by
  cases i with
  | zero => simp only [List.nil_append, List.getElem?_cons_zero, Option.some.injEq] at hi; subst hi; exact ⟨Ext.refl w, fun _ h => h⟩
  | succ i => simp at hi, fun _ h => h.elim, fun h => h.elim, fun h => h.elim, fun h => h⟩
/-- a law's contract, as the top wants it -/
theorem calls_of_okc {P : Program} {f : FuncId} {args : List Value} {L : List Chunk} {w : World} (h : Okc P f args L fun u post => u = .bool true ∧ post = []) (hs : ∃ T, SepT (L ++ [oldC w]) T (fun q => q < w.heap.size) w) : Calls P f args.toArray w fun e w' => e = .returned (.bool true) ∧ Ext w w' := by
  obtain ⟨T, hT⟩ := hs
  refine (h [oldC w] w ⟨T, _, hT⟩).mono ?_
  rintro e w' ⟨u, post, rfl, h2, rfl, rfl⟩
  obtain ⟨T2, S2, h3, -⟩ := SepL.get h2 (i := 0) (c := oldC w) rfl
  exact ⟨rfl, h3⟩
end Go.Proofs.Ytmbaennilhdieaa
