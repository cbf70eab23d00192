/- Shapes: the example of the document, plain; frames by types. -/
import Derived.Test.YtmiecljgcbfklaaShape11
namespace Go.Proofs.Ytmiecljgcbfklaa
open Go.RowKit

def kA : V3 := ⟨1, 0, ⟨#[97]⟩⟩
def kB : V3 := ⟨1, 0, ⟨#[98]⟩⟩
def T1 : List ShD := [root, ⟨0, kA, 7, 1⟩]
def T2 : List ShD := [root, ⟨0, kA, 7, 1⟩, ⟨1, kB, 7, 2⟩]
def T3 : List ShD := [root, ⟨0, kA, 7, 1⟩, ⟨1, kB, 7, 2⟩, ⟨0, kB, 7, 1⟩]
def T5 : List ShD := [root, ⟨0, kA, 7, 1⟩, ⟨1, kB, 7, 2⟩, ⟨0, kB, 7, 1⟩, ⟨0, kA, 6, 1⟩, ⟨4, kB, 7, 2⟩]
theorem ab : ¬ kA = kB := by decide
theorem ba : ¬ kB = kA := by decide
theorem f1 : findL [root] kA 0 = none := find_zero rfl (by decide)
theorem n1 : nextT [root] 0 kA 7 = (T1, 1, 0) := by
  have h : askedE [root] 0 kA 7 = 0 := by decide
  have h2 : layI [root] 0 [⟨0, kA, 7, 0⟩] = (T1, 1, 0) := by decide
  unfold nextT
  rw [if_pos h, show (0 : Int).toNat = 0 from rfl, f1, h2]
  rfl
theorem f2 : findL T1 kB 1 = none := by
  rw [find_up (T := T1) (i := 1) (u := 0) rfl (by decide) ab rfl (by decide)]
  exact find_zero rfl (by decide)
theorem n2 : nextT T1 1 kB 7 = (T2, 2, 0) := by
  have h : askedE T1 1 kB 7 = 0 := by decide
  have h2 : layI T1 1 [⟨0, kB, 7, 0⟩] = (T2, 2, 0) := by decide
  unfold nextT
  rw [if_pos h, show (1 : Int).toNat = 1 from rfl, f2, h2]
  rfl
theorem f3 : findL T2 kA 2 = some (0, 7) := by
  rw [find_up (T := T2) (i := 2) (u := 1) rfl (by decide) ba rfl (by decide)]
  exact find_here (T := T2) (i := 1) (x := ⟨0, kA, 7, 1⟩) rfl (by decide) rfl
theorem b3 : beforeL T2 0 2 = 0 := by
  rw [before_up (T := T2) (i := 2) (u := 1) rfl (by decide) rfl (by decide), before_up (T := T2) (i := 1) (u := 0) rfl (by decide) rfl (by decide)]
  exact before_here rfl (by decide)
theorem r3 : rowL T2 2 = [⟨0, kA, 7, 1⟩, ⟨1, kB, 7, 2⟩] := by
  rw [row_up (T := T2) (i := 2) (u := 1) rfl (by decide) rfl (by decide), row_up (T := T2) (i := 1) (u := 0) rfl (by decide) rfl (by decide), row_zero (T := T2) (i := 0) rfl (by decide)]
  rfl
theorem n3 : withoutT T2 2 kA = (T3, 3, 0) := by
  have h : askedE T2 2 kA 0 = 0 := by decide
  have h2 : layI T2 0 [⟨1, kB, 7, 2⟩] = (T3, 3, 0) := by decide
  unfold withoutT
  rw [if_pos h, show (2 : Int).toNat = 2 from rfl, f3]
  dsimp only
  rw [b3, r3]
  exact h2
theorem f4 : findL T3 kA 2 = some (0, 7) := by
  rw [find_up (T := T3) (i := 2) (u := 1) rfl (by decide) ba rfl (by decide)]
  exact find_here (T := T3) (i := 1) (x := ⟨0, kA, 7, 1⟩) rfl (by decide) rfl
theorem b4 : beforeL T3 0 2 = 0 := by
  rw [before_up (T := T3) (i := 2) (u := 1) rfl (by decide) rfl (by decide), before_up (T := T3) (i := 1) (u := 0) rfl (by decide) rfl (by decide)]
  exact before_here rfl (by decide)
theorem r4 : rowL T3 2 = [⟨0, kA, 7, 1⟩, ⟨1, kB, 7, 2⟩] := by
  rw [row_up (T := T3) (i := 2) (u := 1) rfl (by decide) rfl (by decide), row_up (T := T3) (i := 1) (u := 0) rfl (by decide) rfl (by decide), row_zero (T := T3) (i := 0) rfl (by decide)]
  rfl
theorem n4 : changeT T3 2 kA 6 = (T5, 5, 0) := by
  have h : askedE T3 2 kA 6 = 0 := by decide
  have h2 : layI T3 0 [⟨0, kA, 6, 1⟩, ⟨1, kB, 7, 2⟩] = (T5, 5, 0) := by decide
  unfold changeT
  rw [if_pos h, show (2 : Int).toNat = 2 from rfl, f4]
  dsimp only
  rw [b4, r4]
  exact h2
/-- a block of another type is none of a table's -/
theorem Tab.not {w : World} {p b m c : Nat} {t : TypeId} {cs : Array Value} {fz : Nat × Nat} {T : List ShD} (h : Tab w p b m T) (hc : w.heap[c]? = some (.cells cs t fz)) (h1 : t ≠ 54) (h2 : t ≠ 37) : ¬ OwnT p b m c := by
  obtain ⟨cap, cur, g1, g2, -, -, -, -, g3⟩ := h
  unfold Blk at g1 g2
  rintro (e | e | e)
  · rw [e, g1] at hc; cases hc; exact h1 rfl
  · rw [e, g2] at hc; cases hc; exact h2 rfl
  · obtain ⟨es, clk, g4, -⟩ := g3; rw [e, g4] at hc; cases hc
theorem own_ge {p b m n : Nat} (hp : n ≤ p) (hb : n ≤ b) (hm : n ≤ m) : ∀ q, OwnT p b m q → n ≤ q := by
  rintro q (rfl | rfl | rfl) <;> assumption
/-- a table that was made behind w0 -/
structure TabN (w0 w : World) (p : Nat) (T : List ShD) : Prop where
  wf : WF T
  ext : Ext w0 w
  tab : ∃ b m, Tab w p b m T ∧ w0.heap.size ≤ p ∧ w0.heap.size ≤ b ∧ w0.heap.size ≤ m
/-- all blocks but those of tables are as they were -/
def Rest (w w' : World) : Prop := w.heap.size ≤ w'.heap.size ∧ ∀ (c : Nat) (cs : Array Value) (t : TypeId) (fz : Nat × Nat), w.heap[c]? = some (.cells cs t fz) → t ≠ 54 → t ≠ 37 → w'.heap[c]? = w.heap[c]?
theorem Rest.blk {w w' : World} (h : Rest w w') {b : Nat} {t : TypeId} {cs : Array Value} (hb : Blk w b t cs) (h1 : t ≠ 54) (h2 : t ≠ 37) : Blk w' b t cs := (h.2 b cs t (0, 0) hb h1 h2).trans hb
theorem TabN.of_new {w0 w w' : World} {p b m : Nat} (hT : Tab w' p b m [root]) (hE : Ext w w') (h0 : Ext w0 w) (hp : w.heap.size ≤ p) (hb : w.heap.size ≤ b) (hm : w.heap.size ≤ m) : TabN w0 w' p [root] :=
  ⟨WF.root, h0.trans hE, b, m, hT, Nat.le_trans h0.size hp, Nat.le_trans h0.size hb, Nat.le_trans h0.size hm⟩
theorem TabN.step {w0 w w' : World} {p b m : Nat} {T : List ShD} {r : List ShD × Int × Int} {e : Ending} (h0 : Ext w0 w) (hT : Tab w p b m T) (hp : w0.heap.size ≤ p) (hb : w0.heap.size ≤ b) (hm : w0.heap.size ≤ m) (h : TabPost p b m w r e w') : e = .returned (.tuple #[.int .i64 r.2.1, .int .i64 r.2.2]) ∧ TabN w0 w' p r.1 ∧ Rest w w' := by
  obtain ⟨b', h1, h2, h3, h4, h5⟩ := h
  refine ⟨h1, ⟨h3, h4.ext h0 (own_ge hp hb hm), b', m, h2, hp, ?_, hm⟩, h4.size, fun c cs t fz hc t1 t2 => h4.block c ?_ (hT.not hc t1 t2)⟩
  · rcases h5 with rfl | h5
    · exact hb
    · exact Nat.le_trans h0.size h5
  · rcases Nat.lt_or_ge c w.heap.size with hlt | hge
    · exact hlt
    · rw [Array.getElem?_eq_none hge] at hc; cases hc
theorem TabN.more {w0 w w' : World} {p : Nat} {T : List ShD} (h : TabN w0 w p T) (hx : Ext w w') : TabN w0 w' p T := by
  obtain ⟨h1, h2, b, m, h3, h4, h5, h6⟩ := h
  exact ⟨h1, h2.trans hx, b, m, h3.ext hx, h4, h5, h6⟩
theorem next_law {w0 w : World} {p : Nat} {T : List ShD} (n : Int) (k : V3) (a : Int) (h : TabN w0 w p T) : Calls Try.prog 12 #[.pointer (some ⟨p, 0, none⟩), .int .i64 n, .agg (en3 k).toArray, .int .i64 a] w fun e w' => e = .returned (.tuple #[.int .i64 (nextT T n k a).2.1, .int .i64 (nextT T n k a).2.2]) ∧ TabN w0 w' p (nextT T n k a).1 ∧ Rest w w' := by
  obtain ⟨h1, h2, b, m, h3, h4, h5, h6⟩ := h
  exact (next_any n k a w h3 h1).mono fun e w' hp => TabN.step h2 h3 h4 h5 h6 hp
theorem change_law {w0 w : World} {p : Nat} {T : List ShD} (n : Int) (k : V3) (a : Int) (h : TabN w0 w p T) : Calls Try.prog 14 #[.pointer (some ⟨p, 0, none⟩), .int .i64 n, .agg (en3 k).toArray, .int .i64 a] w fun e w' => e = .returned (.tuple #[.int .i64 (changeT T n k a).2.1, .int .i64 (changeT T n k a).2.2]) ∧ TabN w0 w' p (changeT T n k a).1 ∧ Rest w w' := by
  obtain ⟨h1, h2, b, m, h3, h4, h5, h6⟩ := h
  exact (change_any n k a w h3 h1).mono fun e w' hp => TabN.step h2 h3 h4 h5 h6 hp
theorem without_law {w0 w : World} {p : Nat} {T : List ShD} (n : Int) (k : V3) (h : TabN w0 w p T) : Calls Try.prog 13 #[.pointer (some ⟨p, 0, none⟩), .int .i64 n, .agg (en3 k).toArray] w fun e w' => e = .returned (.tuple #[.int .i64 (withoutT T n k).2.1, .int .i64 (withoutT T n k).2.2]) ∧ TabN w0 w' p (withoutT T n k).1 ∧ Rest w w' := by
  obtain ⟨h1, h2, b, m, h3, h4, h5, h6⟩ := h
  exact (without_any n k w h3 h1).mono fun e w' hp => TabN.step h2 h3 h4 h5 h6 hp
theorem do_law {w0 w : World} {p : Nat} {T : List ShD} (x : ActD) (h : TabN w0 w p T) : Calls Try.prog 8 #[.pointer (some ⟨p, 0, none⟩), .agg (enA x).toArray] w fun e w' => e = .returned (.tuple #[.int .i64 (doT T x).2.1, .int .i64 (doT T x).2.2]) ∧ TabN w0 w' p (doT T x).1 ∧ Rest w w' := by
  obtain ⟨h1, h2, b, m, h3, h4, h5, h6⟩ := h
  exact (do_any x w h3 h1).mono fun e w' hp => TabN.step h2 h3 h4 h5 h6 hp
theorem new_law (w0 w : World) (h0 : Ext w0 w) : Calls Try.prog 7 #[] w fun e w' => ∃ p, e = .returned (.pointer (some ⟨p, 0, none⟩)) ∧ TabN w0 w' p [root] ∧ Ext w w' := by
  refine (new_any w).mono ?_
  rintro e w' ⟨p, b, m, h1, h2, h3, h4, h5, h6⟩
  exact ⟨p, h1, TabN.of_new h2 h3 h0 h4 h5 h6, h3⟩
theorem count_law {w0 w : World} {p : Nat} {T : List ShD} (h : TabN w0 w p T) : Calls Try.prog 9 #[.pointer (some ⟨p, 0, none⟩)] w fun e w' => e = .returned (.int .i64 T.length) ∧ w = w' := by
  obtain ⟨h1, h2, b, m, h3, h4, h5, h6⟩ := h
  exact count_any w h3
theorem find_law {w0 w : World} {p : Nat} {T : List ShD} (n : Int) (k : V3) (h : TabN w0 w p T) : Calls Try.prog 15 #[.pointer (some ⟨p, 0, none⟩), .int .i64 n, .agg (en3 k).toArray] w fun e w' => e = .returned (.tuple (foundT (findT T k n))) ∧ Ext w w' := by
  obtain ⟨h1, h2, b, m, h3, h4, h5, h6⟩ := h
  exact find_any n k w h3 h1
theorem len_law {w0 w : World} {p : Nat} {T : List ShD} (n : Nat) (x : ShD) (h : TabN w0 w p T) (hx : T[n]? = some x) : Calls Try.prog 11 #[.pointer (some ⟨p, 0, none⟩), .int .i64 n] w fun e w' => e = .returned (.int .i64 x.len) ∧ Ext w w' := by
  obtain ⟨h1, h2, b, m, h3, h4, h5, h6⟩ := h
  exact len_in n x w h3 hx
theorem at_law {w0 w : World} {p : Nat} {T : List ShD} (n : Nat) (x : ShD) (h : TabN w0 w p T) (hx : T[n]? = some x) : Calls Try.prog 10 #[.pointer (some ⟨p, 0, none⟩), .int .i64 n] w fun e w' => e = .returned (.tuple #[.agg (enS x).toArray, .bool true]) ∧ Ext w w' := by
  obtain ⟨h1, h2, b, m, h3, h4, h5, h6⟩ := h
  exact at_in n x w h3 hx
end Go.Proofs.Ytmiecljgcbfklaa
