/- Shapes: the three operations, whole; one act. -/
import Derived.Test.YtmiecljgcbfklaaShape9
namespace Go.Proofs.Ytmiecljgcbfklaa
open Go.RowKit

theorem next_any {p b m : Nat} {T : List ShD} (n : Int) (k : V3) (a : Int) (w : World) (hT : Tab w p b m T) (hw : WF T) : Calls Try.prog 12 #[.pointer (some ⟨p, 0, none⟩), .int .i64 n, .agg (en3 k).toArray, .int .i64 a] w (TabPost p b m w (nextT T n k a)) := by
  by_cases ha : askedE T n k a = 0
  · obtain ⟨i, x, rfl, hx⟩ := asked_in ha
    cases hf : findL T k i with
    | some q => obtain ⟨pl, at_⟩ := q; exact next_found i x k a w hT hw hx ha pl at_ hf
    | none =>
      by_cases hl : 1024 ≤ x.len
      · exact next_long i x k a w hT hw hx ha hf hl
      · exact next_new i x k a w hT hw hx ha hf hl
  · exact next_bad n k a w hT hw ha
theorem change_any {p b m : Nat} {T : List ShD} (n : Int) (k : V3) (a : Int) (w : World) (hT : Tab w p b m T) (hw : WF T) : Calls Try.prog 14 #[.pointer (some ⟨p, 0, none⟩), .int .i64 n, .agg (en3 k).toArray, .int .i64 a] w (TabPost p b m w (changeT T n k a)) := by
  by_cases ha : askedE T n k a = 0
  · obtain ⟨i, x, rfl, hx⟩ := asked_in ha
    cases hf : findL T k i with
    | some q =>
      obtain ⟨pl, at_⟩ := q
      obtain ⟨j, rfl⟩ := Int.eq_ofNat_of_zero_le (find_pl hw i x _ _ hx hf).1
      exact change_some i x k a w hT hw hx ha j at_ hf
    | none => exact change_none i x k a w hT hw hx ha hf
  · exact change_bad n k a w hT hw ha
theorem without_any {p b m : Nat} {T : List ShD} (n : Int) (k : V3) (w : World) (hT : Tab w p b m T) (hw : WF T) : Calls Try.prog 13 #[.pointer (some ⟨p, 0, none⟩), .int .i64 n, .agg (en3 k).toArray] w (TabPost p b m w (withoutT T n k)) := by
  by_cases ha : askedE T n k 0 = 0
  · obtain ⟨i, x, rfl, hx⟩ := asked_in ha
    cases hf : findL T k i with
    | some q =>
      obtain ⟨pl, at_⟩ := q
      obtain ⟨j, rfl⟩ := Int.eq_ofNat_of_zero_le (find_pl hw i x _ _ hx hf).1
      exact without_some i x k w hT hw hx ha j at_ hf
    | none => exact without_none i x k w hT hw hx ha hf
  · exact without_bad n k w hT hw ha
/-- one act -/
structure ActD where
  kind : Int
  shape : Int
  key : V3
  attrs : Int
def enA (x : ActD) : List Value := [.int .i64 x.kind, .int .i64 x.shape, .int .i64 x.key.k, .int .i64 x.key.n, .string x.key.s, .int .i64 x.attrs]
theorem enA_len (x : ActD) : (enA x).length = 6 := rfl
def doT (T : List ShD) (x : ActD) : List ShD × Int × Int := if x.kind = 0 then nextT T x.shape x.key x.attrs else if x.kind = 1 then changeT T x.shape x.key x.attrs else withoutT T x.shape x.key
theorem A_makeMap {P : Program} {n : Nat} {ops : Array Oper} {K : Cont} {s : Env} {w : World} {rest : List Oper} {d : Nat} {ty : TypeId} {pos : String} {af : Array Edge} {gd : Option (Nat × Bool)} {t : TypeId}
    (hg : guardE ops s ⟨some d, .makeMap t none, ty, pos, af, gd⟩ = some true) (hd : Nat.ble (d + 1) n = true)
    (k : ∀ w', Ext w w' → w'.heap[w.heap.size]? = some (.map #[] 0) → RunE P n ops rest K ((d, .map (some w.heap.size)) :: s) w') : RunE P n ops (⟨some d, .makeMap t none, ty, pos, af, gd⟩ :: rest) K s w :=
  R_do (v := .map (some w.heap.size)) (w' := w.alloc (.map #[] 0)) (fun ρ _ => by unfold execOp; rfl) hg hd (k _ ((Ext.refl w).alloc _) (heap_alloc_new w _))
theorem mp_new {α β : Type} {ek : α → Value} {ev : β → Value} {w : World} {m : Nat} (h : w.heap[m]? = some (.map #[] 0)) : Mp w m ek ev ([] : List (α × β)) := ⟨#[], 0, h, rfl, List.Pairwise.nil, fun _ h => by cases h⟩
theorem WF.root : WF [root] := ⟨by decide, rfl, fun i x h h0 => by
  have := (List.getElem?_eq_some_iff.1 h).1
  simp at this
  omega⟩
end Go.Proofs.Ytmiecljgcbfklaa
