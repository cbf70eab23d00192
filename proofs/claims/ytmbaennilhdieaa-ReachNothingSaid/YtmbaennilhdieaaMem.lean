/- Words for memory: a slice that reads as a list of rows; frames; small lemmas. Over any program. -/
import Derived.WalkKit
import Derived.WalkSpells
import Derived.WalkLawsBesides
import Derived.Lib.Hide
import Derived.Deep.QuietTactic
import Derived.BigQuiet
namespace Go.Proofs.Ytmbaennilhdieaa
open Go.RowKit

/-- The slice value v holds, element by element, the rows xs (each of sz cells). -/
def Sl {α : Type} (w : World) (sz : Nat) (en : α → List Value) (v : Value) (xs : List α) : Prop :=
  ∃ A c, v = .slice A xs.length c ∧ xs.length ≤ c ∧ c ≤ 9223372036854775807 ∧
    (0 < xs.length → ∃ b o, A = some ⟨b, o, none⟩ ∧ b < w.heap.size ∧ ∀ i x, xs[i]? = some x → ∀ j u, (en x)[j]? = some u → w.cell? ⟨b, o + i * sz + j, none⟩ = some u)

/-- All old blocks are as they were. -/
abbrev Ext (w w' : World) : Prop := Below w.heap.size w w'

theorem Ext.refl (w : World) : Ext w w := Below.refl _ _
theorem Ext.trans {a b c : World} (h : Ext a b) (k : Ext b c) : Ext a c := Below.trans h (Below.mono k h.size)
theorem Ext.drew {a w : World} (h : Ext a w) : Ext a w.drew := ⟨h.os, h.tape, h.output, h.size, h.block⟩
theorem Ext.alloc {a w : World} (h : Ext a w) (o : Obj) : Ext a (w.alloc o) := Below.alloc h h.size o
/-- four integers in a row -/
structure I4 where
  a : Int
  b : Int
  c : Int
  d : Int
  deriving DecidableEq
def en4 (x : I4) : List Value := [.int .i64 x.a, .int .i64 x.b, .int .i64 x.c, .int .i64 x.d]

/-- two integers and a string: api.Value, api.Key -/
structure V3 where
  k : Int
  n : Int
  s : ByteArray
  deriving DecidableEq
def en3 (x : V3) : List Value := [.int .i64 x.k, .int .i64 x.n, .string x.s]

/-- Block b of w is just these cells. -/
def Blk (w : World) (b : Nat) (t : TypeId) (cs : Array Value) : Prop := w.heap[b]? = some (.cells cs t (0, 0))
theorem Blk.lt {w : World} {b : Nat} {t : TypeId} {cs : Array Value} (h : Blk w b t cs) : b < w.heap.size := by
  rcases Nat.lt_or_ge b w.heap.size with hlt | hge
  · exact hlt
  · unfold Blk at h; rw [Array.getElem?_eq_none hge] at h; cases h
theorem Blk.new (w : World) (t : TypeId) (cs : Array Value) : Blk (w.alloc (.cells cs t)) w.heap.size t cs := heap_alloc_new w _
theorem Blk.ext {w w' : World} {b : Nat} {t : TypeId} {cs : Array Value} (h : Blk w b t cs) (hb : Ext w w') : Blk w' b t cs := (hb.block b h.lt).trans h
theorem Blk.cells {w : World} {b : Nat} {t : TypeId} {cs : Array Value} (h : Blk w b t cs) : ∀ j, w.cell? ⟨b, j, none⟩ = cs[j]? := fun j => cell_of_row w b j cs t (0, 0) h
theorem Blk.free {w : World} {b : Nat} {t : TypeId} {cs : Array Value} (h : Blk w b t cs) : ∀ j, w.frozen? ⟨b, j, none⟩ = false := fun j => frozen_of_row w b j cs t h

structure CodeD where
  name : ByteArray
  kind : Int
  length : Int
  regs : Int
  ins : List I4
  pool : List V3
  keys : List V3
  guards : List I4
  deriving DecidableEq

/-- The value v (an api.Code) holds c. -/
def IsCode (w : World) (v : Value) (c : CodeD) : Prop :=
  ∃ vi vp vk vg, v = .agg #[.string c.name, .int .i64 c.kind, .int .i64 c.length, .int .i64 c.regs, vi, vp, vk, vg] ∧
    Sl w 4 en4 vi c.ins ∧ Sl w 3 en3 vp c.pool ∧ Sl w 3 en3 vk c.keys ∧ Sl w 4 en4 vg c.guards
end Go.Proofs.Ytmbaennilhdieaa
