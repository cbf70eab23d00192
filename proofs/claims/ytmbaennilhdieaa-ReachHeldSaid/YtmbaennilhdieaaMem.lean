/- Words for memory: a slice that reads as a list of rows; frames; small lemmas. Over any program. -/
import Derived.WalkKit
import Derived.WalkSpells
import Derived.WalkLawsBesides
import Derived.Lib.Hide
import Derived.Deep.QuietTactic
import Derived.BigQuiet
namespace Go.Proofs.Ytmbaennilhdieaa
open Go.RowKit

/-- The slice value v holds, element by element, the rows xs (each of sz cells). -/
def Sl {α : Type} (w : World) (sz : Nat) (en : α → List Value) (v : Value) (xs : List α) : Prop :=
  ∃ A c, v = .slice A xs.length c ∧ xs.length ≤ c ∧ c ≤ 9223372036854775807 ∧
    (0 < xs.length → ∃ b o, A = some ⟨b, o, none⟩ ∧ b < w.heap.size ∧ ∀ i x, xs[i]? = some x → ∀ j u, (en x)[j]? = some u → w.cell? ⟨b, o + i * sz + j, none⟩ = some u)

/-- All old blocks are as they were. -/
abbrev Ext (w w' : World) : Prop := Below w.heap.size w w'

theorem Ext.refl (w : World) : Ext w w := Below.refl _ _
theorem Ext.trans {a b c : World} (h : Ext a b) (k : Ext b c) : Ext a c := Below.trans h (Below.mono k h.size)
theorem Ext.drewN {a w : World} (h : Ext a w) (n : Nat) : Ext a (w.drewN n) := ⟨h.os, h.tape, h.output, h.size, h.block⟩
theorem Ext.drew {a w : World} (h : Ext a w) : Ext a w.drew := ⟨h.os, h.tape, h.output, h.size, h.block⟩
theorem Ext.alloc {a w : World} (h : Ext a w) (o : Obj) : Ext a (w.alloc o) := Below.alloc h h.size o
theorem Ext.setCell {a w : World} (h : Ext a w) {p : Addr} (hp : a.heap.size ≤ p.block) (u : Value) : Ext a (w.setCell p u) := Below.setCell h hp u

theorem Sl.opened {α : Type} {w : World} {sz : Nat} {en : α → List Value} {A : Option Addr} {n c : Nat} {xs : List α} (h : Sl w sz en (.slice A n c) xs) :
    n = xs.length ∧ xs.length ≤ c ∧ c ≤ 9223372036854775807 ∧
    (0 < xs.length → ∃ b o, A = some ⟨b, o, none⟩ ∧ b < w.heap.size ∧ ∀ i x, xs[i]? = some x → ∀ j u, (en x)[j]? = some u → w.cell? ⟨b, o + i * sz + j, none⟩ = some u) := by
  obtain ⟨A', c', hv, hc, hm, hr⟩ := h
  injection hv with h1 h2 h3
  subst h1 h2 h3
  exact ⟨rfl, hc, hm, hr⟩
theorem Sl.mono {α : Type} {w w' : World} {sz : Nat} {en : α → List Value} {v : Value} {xs : List α} (h : Sl w sz en v xs) (hb : Ext w w') : Sl w' sz en v xs := by
  obtain ⟨A, c, hv, hc, hm, hr⟩ := h
  refine ⟨A, c, hv, hc, hm, fun h0 => ?_⟩
  obtain ⟨b, o, hA, hlt, hx⟩ := hr h0
  exact ⟨b, o, hA, Nat.lt_of_lt_of_le hlt hb.size, fun i x hi j u hu => (hb.cell (p := ⟨b, _, none⟩) hlt).trans (hx i x hi j u hu)⟩

theorem accE {P : Program} {f : FuncId} {args : Array Value} {w0 w : World} {E : Ending} (h0 : Ext w0 w)
    (h : Calls P f args w fun e w' => e = E ∧ Ext w w') : Calls P f args w fun e w' => e = E ∧ Ext w0 w' :=
  h.mono fun _ _ ⟨he, hb⟩ => ⟨he, h0.trans hb⟩

theorem wpL_run {P : Program} {ops : Array Oper} {Q : Exit → Act → World → Prop} {a : Act} {w w' : World} {rest : List Oper} {o : Oper} {v : Value} (hg : o.guard = none)
    (hr : (execOp a.eval o).run P w = .ok (.value v) w') (h : wpList P ops Q rest (a.put o.dst v) w') : wpList P ops Q (o :: rest) a w :=
  wpList_plain hg fun _ hK => by unfold Oper.wp; rw [hr]; exact hK _ _ h

/-- four integers in a row -/
structure I4 where
  a : Int
  b : Int
  c : Int
  d : Int
  deriving DecidableEq
def en4 (x : I4) : List Value := [.int .i64 x.a, .int .i64 x.b, .int .i64 x.c, .int .i64 x.d]

/-- two integers and a string: api.Value, api.Key -/
structure V3 where
  k : Int
  n : Int
  s : ByteArray
  deriving DecidableEq
def en3 (x : V3) : List Value := [.int .i64 x.k, .int .i64 x.n, .string x.s]

/-- Block b of w is just these cells. -/
def Blk (w : World) (b : Nat) (t : TypeId) (cs : Array Value) : Prop := w.heap[b]? = some (.cells cs t (0, 0))
theorem Blk.lt {w : World} {b : Nat} {t : TypeId} {cs : Array Value} (h : Blk w b t cs) : b < w.heap.size := by
  rcases Nat.lt_or_ge b w.heap.size with hlt | hge
  · exact hlt
  · unfold Blk at h; rw [Array.getElem?_eq_none hge] at h; cases h
theorem Blk.new (w : World) (t : TypeId) (cs : Array Value) : Blk (w.alloc (.cells cs t)) w.heap.size t cs := heap_alloc_new w _
theorem Blk.ext {w w' : World} {b : Nat} {t : TypeId} {cs : Array Value} (h : Blk w b t cs) (hb : Ext w w') : Blk w' b t cs := (hb.block b h.lt).trans h
theorem Blk.alloc {w : World} {b : Nat} {t : TypeId} {cs : Array Value} (h : Blk w b t cs) (o : Obj) : Blk (w.alloc o) b t cs := h.ext ((Ext.refl w).alloc o)
theorem Blk.cells {w : World} {b : Nat} {t : TypeId} {cs : Array Value} (h : Blk w b t cs) : ∀ j, w.cell? ⟨b, j, none⟩ = cs[j]? := fun j => cell_of_row w b j cs t (0, 0) h
theorem Blk.free {w : World} {b : Nat} {t : TypeId} {cs : Array Value} (h : Blk w b t cs) : ∀ j, w.frozen? ⟨b, j, none⟩ = false := fun j => frozen_of_row w b j cs t h

structure CodeD where
  name : ByteArray
  kind : Int
  length : Int
  regs : Int
  ins : List I4
  pool : List V3
  keys : List V3
  guards : List I4
  deriving DecidableEq

/-- The value v (an api.Code) holds c. -/
def IsCode (w : World) (v : Value) (c : CodeD) : Prop :=
  ∃ vi vp vk vg, v = .agg #[.string c.name, .int .i64 c.kind, .int .i64 c.length, .int .i64 c.regs, vi, vp, vk, vg] ∧
    Sl w 4 en4 vi c.ins ∧ Sl w 3 en3 vp c.pool ∧ Sl w 3 en3 vk c.keys ∧ Sl w 4 en4 vg c.guards
theorem IsCode.mono {w w' : World} {v : Value} {c : CodeD} (h : IsCode w v c) (hb : Ext w w') : IsCode w' v c := by
  obtain ⟨vi, vp, vk, vg, hv, h1, h2, h3, h4⟩ := h
  exact ⟨vi, vp, vk, vg, hv, h1.mono hb, h2.mono hb, h3.mono hb, h4.mono hb⟩
theorem IsCode.form {w : World} {v : Value} {c : CodeD} (h : IsCode w v c) : ∃ (A1 A2 A3 A4 : Option Addr) (n1 n2 n3 n4 c1 c2 c3 c4 : Nat),
    v = .agg #[.string c.name, .int .i64 c.kind, .int .i64 c.length, .int .i64 c.regs, .slice A1 n1 c1, .slice A2 n2 c2, .slice A3 n3 c3, .slice A4 n4 c4] := by
  obtain ⟨vi, vp, vk, vg, rfl, ⟨A1, c1, rfl, -⟩, ⟨A2, c2, rfl, -⟩, ⟨A3, c3, rfl, -⟩, ⟨A4, c4, rfl, -⟩⟩ := h
  exact ⟨A1, A2, A3, A4, _, _, _, _, c1, c2, c3, c4, rfl⟩
end Go.Proofs.Ytmbaennilhdieaa
