/- Readings of arguments (printed by top3.py). -/
import Derived.Test.YtancgbfkpoeffaaRd3
import Derived.Test.YtancgbfkpoeffaaR2
namespace Go.Proofs.Ytancgbfkpoeffaa
open Go.RowKit Go.ChangeShapes Go.WideShapes Go.Deep
def wfDValue (x : DValue) : Prop := (in64 x.Kind) ∧ (in64 x.N) ∧ (True)
theorem rdr_DValue : Rdr Try.prog 63 rDValue wfDValue := fun {_ enc w base spare held _ cs y} h => by
  obtain ⟨xs, m, -, -, hl, hx, hf⟩ := DataW.trod_struct Try.underlying63 h
  have hc : Try.prog.cellsOf 63 = 3 := by kernel_rfl
  rw [hc] at hl
  match cs, hl, hf with
  | [c0, c1, c2], _, hf =>
    have k0 : DataW.trod enc Try.prog w base spare held m 3 (List.take (Try.prog.cellsOf 3) (List.drop 0 [c0, c1, c2])) = xs[0]? := hf 0 _ rfl
    have z0 : Try.prog.cellsOf 3 = 1 := by kernel_rfl
    simp only [z0, List.drop_succ_cons, List.drop_zero, List.take_succ_cons, List.take_zero] at k0
    obtain ⟨a0, r0, w0⟩ := (rdr_int Try.underlying3) (k0.trans (List.getElem?_eq_getElem (by rw [hx]; decide)))
    have k1 : DataW.trod enc Try.prog w base spare held m 3 (List.take (Try.prog.cellsOf 3) (List.drop 1 [c0, c1, c2])) = xs[1]? := hf 1 _ rfl
    have z1 : Try.prog.cellsOf 3 = 1 := by kernel_rfl
    simp only [z1, List.drop_succ_cons, List.drop_zero, List.take_succ_cons, List.take_zero] at k1
    obtain ⟨a1, r1, w1⟩ := (rdr_int Try.underlying3) (k1.trans (List.getElem?_eq_getElem (by rw [hx]; decide)))
    have k2 : DataW.trod enc Try.prog w base spare held m 9 (List.take (Try.prog.cellsOf 9) (List.drop 2 [c0, c1, c2])) = xs[2]? := hf 2 _ rfl
    have z2 : Try.prog.cellsOf 9 = 1 := by kernel_rfl
    simp only [z2, List.drop_succ_cons, List.drop_zero, List.take_succ_cons, List.take_zero] at k2
    obtain ⟨a2, r2, w2⟩ := (rdr_str Try.underlying9) (k2.trans (List.getElem?_eq_getElem (by rw [hx]; decide)))
    obtain ⟨rfl, -⟩ := List.cons.inj (show [c0] = [_] from r0)
    obtain ⟨rfl, -⟩ := List.cons.inj (show [c1] = [_] from r1)
    obtain ⟨rfl, -⟩ := List.cons.inj (show [c2] = [_] from r2)
    exact ⟨⟨a0, a1, a2⟩, rfl, ⟨w0, w1, w2⟩⟩
def wfDCell (x : DCell) : Prop := (in64 x.Kind) ∧ (in64 x.Shape) ∧ (in64 x.Flags) ∧ (in64 x.Age) ∧ (∀ z25 ∈ x.Slots, wfDValue z25) ∧ (∀ z25 ∈ x.More, wfDValue z25)
theorem rdr_DCell : Rdr Try.prog 27 rDCell wfDCell := fun {_ enc w base spare held _ cs y} h => by
  obtain ⟨xs, m, -, -, hl, hx, hf⟩ := DataW.trod_struct Try.underlying27 h
  have hc : Try.prog.cellsOf 27 = 6 := by kernel_rfl
  rw [hc] at hl
  match cs, hl, hf with
  | [c0, c1, c2, c3, c4, c5], _, hf =>
    have k0 : DataW.trod enc Try.prog w base spare held m 3 (List.take (Try.prog.cellsOf 3) (List.drop 0 [c0, c1, c2, c3, c4, c5])) = xs[0]? := hf 0 _ rfl
    have z0 : Try.prog.cellsOf 3 = 1 := by kernel_rfl
    simp only [z0, List.drop_succ_cons, List.drop_zero, List.take_succ_cons, List.take_zero] at k0
    obtain ⟨a0, r0, w0⟩ := (rdr_int Try.underlying3) (k0.trans (List.getElem?_eq_getElem (by rw [hx]; decide)))
    have k1 : DataW.trod enc Try.prog w base spare held m 3 (List.take (Try.prog.cellsOf 3) (List.drop 1 [c0, c1, c2, c3, c4, c5])) = xs[1]? := hf 1 _ rfl
    have z1 : Try.prog.cellsOf 3 = 1 := by kernel_rfl
    simp only [z1, List.drop_succ_cons, List.drop_zero, List.take_succ_cons, List.take_zero] at k1
    obtain ⟨a1, r1, w1⟩ := (rdr_int Try.underlying3) (k1.trans (List.getElem?_eq_getElem (by rw [hx]; decide)))
    have k2 : DataW.trod enc Try.prog w base spare held m 3 (List.take (Try.prog.cellsOf 3) (List.drop 2 [c0, c1, c2, c3, c4, c5])) = xs[2]? := hf 2 _ rfl
    have z2 : Try.prog.cellsOf 3 = 1 := by kernel_rfl
    simp only [z2, List.drop_succ_cons, List.drop_zero, List.take_succ_cons, List.take_zero] at k2
    obtain ⟨a2, r2, w2⟩ := (rdr_int Try.underlying3) (k2.trans (List.getElem?_eq_getElem (by rw [hx]; decide)))
    have k3 : DataW.trod enc Try.prog w base spare held m 3 (List.take (Try.prog.cellsOf 3) (List.drop 3 [c0, c1, c2, c3, c4, c5])) = xs[3]? := hf 3 _ rfl
    have z3 : Try.prog.cellsOf 3 = 1 := by kernel_rfl
    simp only [z3, List.drop_succ_cons, List.drop_zero, List.take_succ_cons, List.take_zero] at k3
    obtain ⟨a3, r3, w3⟩ := (rdr_int Try.underlying3) (k3.trans (List.getElem?_eq_getElem (by rw [hx]; decide)))
    have k4 : DataW.trod enc Try.prog w base spare held m 25 (List.take (Try.prog.cellsOf 25) (List.drop 4 [c0, c1, c2, c3, c4, c5])) = xs[4]? := hf 4 _ rfl
    have z4 : Try.prog.cellsOf 25 = 1 := by kernel_rfl
    simp only [z4, List.drop_succ_cons, List.drop_zero, List.take_succ_cons, List.take_zero] at k4
    obtain ⟨a4, r4, w4⟩ := (rdr_sl Try.underlying25 (by kernel_rfl) (by decide) rdr_DValue) (k4.trans (List.getElem?_eq_getElem (by rw [hx]; decide)))
    have k5 : DataW.trod enc Try.prog w base spare held m 25 (List.take (Try.prog.cellsOf 25) (List.drop 5 [c0, c1, c2, c3, c4, c5])) = xs[5]? := hf 5 _ rfl
    have z5 : Try.prog.cellsOf 25 = 1 := by kernel_rfl
    simp only [z5, List.drop_succ_cons, List.drop_zero, List.take_succ_cons, List.take_zero] at k5
    obtain ⟨a5, r5, w5⟩ := (rdr_sl Try.underlying25 (by kernel_rfl) (by decide) rdr_DValue) (k5.trans (List.getElem?_eq_getElem (by rw [hx]; decide)))
    obtain ⟨rfl, -⟩ := List.cons.inj (show [c0] = [_] from r0)
    obtain ⟨rfl, -⟩ := List.cons.inj (show [c1] = [_] from r1)
    obtain ⟨rfl, -⟩ := List.cons.inj (show [c2] = [_] from r2)
    obtain ⟨rfl, -⟩ := List.cons.inj (show [c3] = [_] from r3)
    obtain ⟨v4, e4, b4⟩ := r4
    obtain ⟨rfl, -⟩ := List.cons.inj e4
    obtain ⟨A4, q4, rfl, d4⟩ := b4
    have b4 : SlR rDValue _ _ (.slice A4 a4.length q4) a4 := ⟨_, _, rfl, d4⟩
    obtain ⟨v5, e5, b5⟩ := r5
    obtain ⟨rfl, -⟩ := List.cons.inj e5
    obtain ⟨A5, q5, rfl, d5⟩ := b5
    have b5 : SlR rDValue _ _ (.slice A5 a5.length q5) a5 := ⟨_, _, rfl, d5⟩
    exact ⟨⟨a0, a1, a2, a3, a4, a5⟩, ⟨_, _, _, _, _, _, rfl, b4, b5⟩, ⟨w0, w1, w2, w3, w4, w5⟩⟩
def wfDStep (x : DStep) : Prop := (True) ∧ (in64 x.At) ∧ (wfDCell x.Cell)
theorem rdr_DStep : Rdr Try.prog 29 rDStep wfDStep := fun {_ enc w base spare held _ cs y} h => by
  obtain ⟨xs, m, -, -, hl, hx, hf⟩ := DataW.trod_struct Try.underlying29 h
  have hc : Try.prog.cellsOf 29 = 8 := by kernel_rfl
  rw [hc] at hl
  match cs, hl, hf with
  | [c0, c1, c2, c3, c4, c5, c6, c7], _, hf =>
    have k0 : DataW.trod enc Try.prog w base spare held m 4 (List.take (Try.prog.cellsOf 4) (List.drop 0 [c0, c1, c2, c3, c4, c5, c6, c7])) = xs[0]? := hf 0 _ rfl
    have z0 : Try.prog.cellsOf 4 = 1 := by kernel_rfl
    simp only [z0, List.drop_succ_cons, List.drop_zero, List.take_succ_cons, List.take_zero] at k0
    obtain ⟨a0, r0, w0⟩ := (rdr_bool Try.underlying4) (k0.trans (List.getElem?_eq_getElem (by rw [hx]; decide)))
    have k1 : DataW.trod enc Try.prog w base spare held m 3 (List.take (Try.prog.cellsOf 3) (List.drop 1 [c0, c1, c2, c3, c4, c5, c6, c7])) = xs[1]? := hf 1 _ rfl
    have z1 : Try.prog.cellsOf 3 = 1 := by kernel_rfl
    simp only [z1, List.drop_succ_cons, List.drop_zero, List.take_succ_cons, List.take_zero] at k1
    obtain ⟨a1, r1, w1⟩ := (rdr_int Try.underlying3) (k1.trans (List.getElem?_eq_getElem (by rw [hx]; decide)))
    have k2 : DataW.trod enc Try.prog w base spare held m 27 (List.take (Try.prog.cellsOf 27) (List.drop 2 [c0, c1, c2, c3, c4, c5, c6, c7])) = xs[2]? := hf 2 _ rfl
    have z2 : Try.prog.cellsOf 27 = 6 := by kernel_rfl
    simp only [z2, List.drop_succ_cons, List.drop_zero, List.take_succ_cons, List.take_zero] at k2
    obtain ⟨a2, r2, w2⟩ := rdr_DCell (k2.trans (List.getElem?_eq_getElem (by rw [hx]; decide)))
    obtain ⟨rfl, -⟩ := List.cons.inj (show [c0] = [_] from r0)
    obtain ⟨rfl, -⟩ := List.cons.inj (show [c1] = [_] from r1)
    obtain ⟨_, _, _, _, _, _, e2, b2_0, b2_1⟩ := r2
    simp only [List.cons.injEq, and_true] at e2
    obtain ⟨rfl, rfl, rfl, rfl, rfl, rfl⟩ := e2
    exact ⟨⟨a0, a1, a2⟩, ⟨_, _, _, _, _, _, rfl, b2_0, b2_1⟩, ⟨w0, w1, w2⟩⟩
def wfDMemory (x : DMemory) : Prop := (∀ z24 ∈ x.Young, wfDCell z24) ∧ (∀ z24 ∈ x.Old, wfDCell z24)
theorem rdr_DMemory : Rdr Try.prog 42 rDMemory wfDMemory := fun {_ enc w base spare held _ cs y} h => by
  obtain ⟨xs, m, -, -, hl, hx, hf⟩ := DataW.trod_struct Try.underlying42 h
  have hc : Try.prog.cellsOf 42 = 2 := by kernel_rfl
  rw [hc] at hl
  match cs, hl, hf with
  | [c0, c1], _, hf =>
    have k0 : DataW.trod enc Try.prog w base spare held m 24 (List.take (Try.prog.cellsOf 24) (List.drop 0 [c0, c1])) = xs[0]? := hf 0 _ rfl
    have z0 : Try.prog.cellsOf 24 = 1 := by kernel_rfl
    simp only [z0, List.drop_succ_cons, List.drop_zero, List.take_succ_cons, List.take_zero] at k0
    obtain ⟨a0, r0, w0⟩ := (rdr_sl Try.underlying24 (by kernel_rfl) (by decide) rdr_DCell) (k0.trans (List.getElem?_eq_getElem (by rw [hx]; decide)))
    have k1 : DataW.trod enc Try.prog w base spare held m 24 (List.take (Try.prog.cellsOf 24) (List.drop 1 [c0, c1])) = xs[1]? := hf 1 _ rfl
    have z1 : Try.prog.cellsOf 24 = 1 := by kernel_rfl
    simp only [z1, List.drop_succ_cons, List.drop_zero, List.take_succ_cons, List.take_zero] at k1
    obtain ⟨a1, r1, w1⟩ := (rdr_sl Try.underlying24 (by kernel_rfl) (by decide) rdr_DCell) (k1.trans (List.getElem?_eq_getElem (by rw [hx]; decide)))
    obtain ⟨v0, e0, b0⟩ := r0
    obtain ⟨rfl, -⟩ := List.cons.inj e0
    obtain ⟨A0, q0, rfl, d0⟩ := b0
    have b0 : SlR rDCell _ _ (.slice A0 a0.length q0) a0 := ⟨_, _, rfl, d0⟩
    obtain ⟨v1, e1, b1⟩ := r1
    obtain ⟨rfl, -⟩ := List.cons.inj e1
    obtain ⟨A1, q1, rfl, d1⟩ := b1
    have b1 : SlR rDCell _ _ (.slice A1 a1.length q1) a1 := ⟨_, _, rfl, d1⟩
    exact ⟨⟨a0, a1⟩, ⟨_, _, _, _, _, _, rfl, b0, b1⟩, ⟨w0, w1⟩⟩
theorem arg_22 {H : Type} {enc : TypeId × Value → H} {W : World} {r : Reach} {b0 : Nat} {base : Nat} {spare : Nat → Bool} {held : Bool} {v : Value} {d : DataW H} {p : List MemPlace}
    (hv : Value.okWide Try.prog W r b0 22 v) (h : DataW.Trod enc Try.prog W base spare held 22 v d p) : ∃ (m : (List DStep)) (Aq_0 : Option Addr) (nq_0 cq_0 : Nat), v = .slice Aq_0 nq_0 cq_0 ∧ (∀ z22 ∈ m, wfDStep z22) ∧ (slC rDStep (.slice Aq_0 nq_0 cq_0) m).ok (fun _ => False) (fun q => q < W.heap.size) W := by
  obtain ⟨A, n, c, rfl⟩ := okWide_slice Try.underlying22 hv
  obtain ⟨fuel, hf⟩ := h
  obtain ⟨m, ⟨u, e, h1⟩, hw⟩ := (rdr_sl Try.underlying22 (by kernel_rfl) (by decide) rdr_DStep) hf
  obtain ⟨rfl, -⟩ := List.cons.inj (show [_] = [_] from e)
  exact ⟨m, A, n, c, rfl, hw, h1⟩
theorem arg_42 {H : Type} {enc : TypeId × Value → H} {W : World} {r : Reach} {b0 : Nat} {base : Nat} {spare : Nat → Bool} {held : Bool} {v : Value} {d : DataW H} {p : List MemPlace}
    (hv : Value.okWide Try.prog W r b0 42 v) (h : DataW.Trod enc Try.prog W base spare held 42 v d p) : ∃ (m : DMemory) (Aq_0 : Option Addr) (nq_0 cq_0 : Nat) (Aq_1 : Option Addr) (nq_1 cq_1 : Nat), v = .agg #[.slice Aq_0 nq_0 cq_0, .slice Aq_1 nq_1 cq_1] ∧ (wfDMemory m) ∧ (slC rDCell (.slice Aq_0 nq_0 cq_0) m.Young).ok (fun _ => False) (fun q => q < W.heap.size) W ∧ (slC rDCell (.slice Aq_1 nq_1 cq_1) m.Old).ok (fun _ => False) (fun q => q < W.heap.size) W := by
  obtain ⟨cs, rfl, -⟩ := okWide_struct Try.underlying42 hv
  obtain ⟨fuel, hf⟩ := h
  obtain ⟨m, ⟨Aq_0, nq_0, cq_0, Aq_1, nq_1, cq_1, e, hq_0, hq_1⟩, hw⟩ := rdr_DMemory hf
  obtain ⟨l⟩ := cs
  have hx : l = [.slice Aq_0 nq_0 cq_0, .slice Aq_1 nq_1 cq_1] := e
  exact ⟨m, Aq_0, nq_0, cq_0, Aq_1, nq_1, cq_1, by rw [hx], hw, hq_0, hq_1⟩
theorem arg_35 {H : Type} {enc : TypeId × Value → H} {W : World} {r : Reach} {b0 : Nat} {base : Nat} {spare : Nat → Bool} {held : Bool} {v : Value} {d : DataW H} {p : List MemPlace}
    (hv : Value.okWide Try.prog W r b0 35 v) (h : DataW.Trod enc Try.prog W base spare held 35 v d p) : ∃ (m : (List Int)) (Aq_0 : Option Addr) (nq_0 cq_0 : Nat), v = .slice Aq_0 nq_0 cq_0 ∧ (∀ z35 ∈ m, in64 z35) ∧ (slC (rInt .i64) (.slice Aq_0 nq_0 cq_0) m).ok (fun _ => False) (fun q => q < W.heap.size) W := by
  obtain ⟨A, n, c, rfl⟩ := okWide_slice Try.underlying35 hv
  obtain ⟨fuel, hf⟩ := h
  obtain ⟨m, ⟨u, e, h1⟩, hw⟩ := (rdr_sl Try.underlying35 (by kernel_rfl) (by decide) (rdr_int Try.underlying3)) hf
  obtain ⟨rfl, -⟩ := List.cons.inj (show [_] = [_] from e)
  exact ⟨m, A, n, c, rfl, hw, h1⟩
theorem arg_27 {H : Type} {enc : TypeId × Value → H} {W : World} {r : Reach} {b0 : Nat} {base : Nat} {spare : Nat → Bool} {held : Bool} {v : Value} {d : DataW H} {p : List MemPlace}
    (hv : Value.okWide Try.prog W r b0 27 v) (h : DataW.Trod enc Try.prog W base spare held 27 v d p) : ∃ (m : DCell) (Aq_0 : Option Addr) (nq_0 cq_0 : Nat) (Aq_1 : Option Addr) (nq_1 cq_1 : Nat), v = .agg #[.int .i64 m.Kind, .int .i64 m.Shape, .int .i64 m.Flags, .int .i64 m.Age, .slice Aq_0 nq_0 cq_0, .slice Aq_1 nq_1 cq_1] ∧ (wfDCell m) ∧ (slC rDValue (.slice Aq_0 nq_0 cq_0) m.Slots).ok (fun _ => False) (fun q => q < W.heap.size) W ∧ (slC rDValue (.slice Aq_1 nq_1 cq_1) m.More).ok (fun _ => False) (fun q => q < W.heap.size) W := by
  obtain ⟨cs, rfl, -⟩ := okWide_struct Try.underlying27 hv
  obtain ⟨fuel, hf⟩ := h
  obtain ⟨m, ⟨Aq_0, nq_0, cq_0, Aq_1, nq_1, cq_1, e, hq_0, hq_1⟩, hw⟩ := rdr_DCell hf
  obtain ⟨l⟩ := cs
  have hx : l = [.int .i64 m.Kind, .int .i64 m.Shape, .int .i64 m.Flags, .int .i64 m.Age, .slice Aq_0 nq_0 cq_0, .slice Aq_1 nq_1 cq_1] := e
  exact ⟨m, Aq_0, nq_0, cq_0, Aq_1, nq_1, cq_1, by rw [hx], hw, hq_0, hq_1⟩
theorem arg_51 {H : Type} {enc : TypeId × Value → H} {W : World} {r : Reach} {b0 : Nat} {base : Nat} {spare : Nat → Bool} {held : Bool} {v : Value} {d : DataW H} {p : List MemPlace}
    (hv : Value.okWide Try.prog W r b0 51 v) (h : DataW.Trod enc Try.prog W base spare held 51 v d p) : ∃ (m : (List Bool)) (Aq_0 : Option Addr) (nq_0 cq_0 : Nat), v = .slice Aq_0 nq_0 cq_0 ∧ (∀ z51 ∈ m, True) ∧ (slC rBool (.slice Aq_0 nq_0 cq_0) m).ok (fun _ => False) (fun q => q < W.heap.size) W := by
  obtain ⟨A, n, c, rfl⟩ := okWide_slice Try.underlying51 hv
  obtain ⟨fuel, hf⟩ := h
  obtain ⟨m, ⟨u, e, h1⟩, hw⟩ := (rdr_sl Try.underlying51 (by kernel_rfl) (by decide) (rdr_bool Try.underlying4)) hf
  obtain ⟨rfl, -⟩ := List.cons.inj (show [_] = [_] from e)
  exact ⟨m, A, n, c, rfl, hw, h1⟩
end Go.Proofs.Ytancgbfkpoeffaa
