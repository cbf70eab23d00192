/- Shapes: the table in memory. -/
import Derived.Test.YtmiecljgcbfklaaTy
import Derived.Test.YtmiecljgcbfklaaKeyWalk
import Derived.Test.YtmiecljgcbfklaaEng7
namespace Go.Proofs.Ytmiecljgcbfklaa
open Go.RowKit

/-- one shape -/
structure ShD where
  up : Int
  key : V3
  attrs : Int
  len : Int
  deriving DecidableEq
def enS (x : ShD) : List Value := [.int .i64 x.up, .int .i64 x.key.k, .int .i64 x.key.n, .string x.key.s, .int .i64 x.attrs, .int .i64 x.len]
theorem enS_len (x : ShD) : (enS x).length = 6 := rfl
def stepV (u : Int) (k : V3) (a : Int) : Value := .agg #[.int .i64 u, .int .i64 k.k, .int .i64 k.n, .string k.s, .int .i64 a]
abbrev Stp := Int × V3 × Int
def stepE (x : Stp) : Value := stepV x.1 x.2.1 x.2.2
def natE (n : Nat) : Value := .int .i64 (n : Int)
/-- the transitions: one for each shape but the root -/
def prs (T : List ShD) : List (Stp × Nat) := (T.drop 1).zipIdx.map fun (x, i) => ((x.up, x.key, x.attrs), i + 1)
def Tab (w : World) (p b m : Nat) (T : List ShD) : Prop :=
  ∃ cap cur, Blk w p 54 #[.slice (some ⟨b, 0, none⟩) T.length cap, .map (some m)] ∧ Blk w b 37 cur ∧ T.length ≤ cap ∧ cap ≤ maxLen ∧ cur.size = cap * 6 ∧ cur.toList.take (T.length * 6) = T.flatMap enS ∧ Mp w m stepE natE (prs T)
theorem lt_of_heap {w : World} {b : Nat} {o : Obj} (h : w.heap[b]? = some o) : b < w.heap.size := by
  rcases Nat.lt_or_ge b w.heap.size with hlt | hge
  · exact hlt
  · rw [Array.getElem?_eq_none hge] at h; cases h
theorem Tab.fr {S : Nat → Prop} {w w' : World} {p b m : Nat} {T : List ShD} (h : Tab w p b m T) (k : Fr S w w') (hp : ¬ S p) (hb : ¬ S b) (hm : ¬ S m) : Tab w' p b m T := by
  obtain ⟨cap, cur, h1, h2, h3, h4, h5, h6, h7⟩ := h
  exact ⟨cap, cur, h1.fr k hp, h2.fr k hb, h3, h4, h5, h6, h7.fr k hm⟩
theorem Tab.ext {w w' : World} {p b m : Nat} {T : List ShD} (h : Tab w p b m T) (k : Ext w w') : Tab w' p b m T := h.fr (S := fun _ => False) (Fr.of_ext k) id id id
theorem Tab.get {w : World} {p b m : Nat} {T : List ShD} (h : Tab w p b m T) {i : Nat} {x : ShD} (hi : T[i]? = some x) : CellsAt w b (0 + i * 6) (enS x) := by
  obtain ⟨cap, cur, h1, h2, h3, h4, h5, h6, h7⟩ := h
  intro j u hu
  have hj : j < 6 := (List.getElem?_eq_some_iff.1 hu).1
  have hlt : i < T.length := (List.getElem?_eq_some_iff.1 hi).1
  have e1 := flatS_get enS_len T i x j u hi hu
  rw [← h6, List.getElem?_take, if_pos (by omega), Array.getElem?_toList] at e1
  have hB : Blk w b 37 cur := h2
  rw [hB.cells, show 0 + i * 6 + j = i * 6 + j by omega]
  exact e1
/-- the field shapes -/
theorem Tab.row {w : World} {p b m : Nat} {T : List ShD} (h : Tab w p b m T) : ∃ cap, T.length ≤ cap ∧ cap ≤ 9223372036854775807 ∧ Blk w p 54 #[.slice (some ⟨b, 0, none⟩) T.length cap, .map (some m)] := by
  obtain ⟨cap, cur, h1, h2, h3, h4, h5, h6, h7⟩ := h
  unfold maxLen at h4
  exact ⟨cap, h3, h4, h1⟩
def mayB (a : Int) : Bool := decide (0 ≤ a) && decide (a ≤ 15) && !decide (bits .and .i64 a 9 = 9)
abbrev keyVS (k : V3) : Value := .agg #[.int .i64 k.k, .int .i64 k.n, .string k.s]
def root : ShD := ⟨-1, ⟨0, 0, ⟨#[]⟩⟩, 0, 0⟩
end Go.Proofs.Ytmiecljgcbfklaa
