/- Readings of arguments (printed by top3.py). -/
import Derived.Test.YtmbaennilhdieaaRd3w
import Derived.Test.YtmbaennilhdieaaR31
namespace Go.Proofs.Ytmbaennilhdieaa
open Go.RowKit Go.ChangeShapes Go.WideShapes Go.Deep
def wfwDValue (x : DValue) : Prop := (in64 x.Kind) ∧ (in64 x.N) ∧ (True)
set_option maxRecDepth 100000 in
theorem rdrw_DValue : Rdrw Try.prog 38 rDValue wfwDValue := fun {_ enc w base spare held _ cs y} h hw => by
  obtain ⟨xs, m, -, hy, hl, hx, hf⟩ := DataW.trod_struct Try.underlying38 h
  have hc : Try.prog.cellsOf 38 = 3 := by kernel_rfl
  rw [hc] at hl
  match cs, hl, hf with
  | [c0, c1, c2], _, hf =>
    have k0 : DataW.trod enc Try.prog w base spare held m 3 (List.take (Try.prog.cellsOf 3) (List.drop 0 [c0, c1, c2])) = xs[0]? := hf 0 _ rfl
    have z0 : Try.prog.cellsOf 3 = 1 := by kernel_rfl
    simp only [z0, List.drop_succ_cons, List.drop_zero, List.take_succ_cons, List.take_zero] at k0
    have l0 : 0 < xs.length := by rw [hx]; decide
    obtain ⟨a0, r0, w0⟩ := (Rdr.w (rdr_int Try.underlying3)) (k0.trans (List.getElem?_eq_getElem l0)) (wt_struct Try.underlying38 hy hw (i := 0) rfl (List.getElem?_eq_getElem l0))
    have k1 : DataW.trod enc Try.prog w base spare held m 3 (List.take (Try.prog.cellsOf 3) (List.drop 1 [c0, c1, c2])) = xs[1]? := hf 1 _ rfl
    have z1 : Try.prog.cellsOf 3 = 1 := by kernel_rfl
    simp only [z1, List.drop_succ_cons, List.drop_zero, List.take_succ_cons, List.take_zero] at k1
    have l1 : 1 < xs.length := by rw [hx]; decide
    obtain ⟨a1, r1, w1⟩ := (Rdr.w (rdr_int Try.underlying3)) (k1.trans (List.getElem?_eq_getElem l1)) (wt_struct Try.underlying38 hy hw (i := 1) rfl (List.getElem?_eq_getElem l1))
    have k2 : DataW.trod enc Try.prog w base spare held m 9 (List.take (Try.prog.cellsOf 9) (List.drop 2 [c0, c1, c2])) = xs[2]? := hf 2 _ rfl
    have z2 : Try.prog.cellsOf 9 = 1 := by kernel_rfl
    simp only [z2, List.drop_succ_cons, List.drop_zero, List.take_succ_cons, List.take_zero] at k2
    have l2 : 2 < xs.length := by rw [hx]; decide
    obtain ⟨a2, r2, w2⟩ := (Rdr.w (rdr_str Try.underlying9)) (k2.trans (List.getElem?_eq_getElem l2)) (wt_struct Try.underlying38 hy hw (i := 2) rfl (List.getElem?_eq_getElem l2))
    obtain ⟨rfl, -⟩ := List.cons.inj (show [c0] = [_] from r0)
    obtain ⟨rfl, -⟩ := List.cons.inj (show [c1] = [_] from r1)
    obtain ⟨rfl, -⟩ := List.cons.inj (show [c2] = [_] from r2)
    exact ⟨⟨a0, a1, a2⟩, rfl, ⟨w0, w1, w2⟩⟩
def wfwDCell (x : DCell) : Prop := (in64 x.Kind) ∧ (in64 x.Shape) ∧ (in64 x.Flags) ∧ (in64 x.Age) ∧ (WfL (fun z25 => wfwDValue z25) x.Slots) ∧ (WfL (fun z25 => wfwDValue z25) x.More)
set_option maxRecDepth 100000 in
theorem rdrw_DCell : Rdrw Try.prog 42 rDCell wfwDCell := fun {_ enc w base spare held _ cs y} h hw => by
  obtain ⟨xs, m, -, hy, hl, hx, hf⟩ := DataW.trod_struct Try.underlying42 h
  have hc : Try.prog.cellsOf 42 = 6 := by kernel_rfl
  rw [hc] at hl
  match cs, hl, hf with
  | [c0, c1, c2, c3, c4, c5], _, hf =>
    have k0 : DataW.trod enc Try.prog w base spare held m 3 (List.take (Try.prog.cellsOf 3) (List.drop 0 [c0, c1, c2, c3, c4, c5])) = xs[0]? := hf 0 _ rfl
    have z0 : Try.prog.cellsOf 3 = 1 := by kernel_rfl
    simp only [z0, List.drop_succ_cons, List.drop_zero, List.take_succ_cons, List.take_zero] at k0
    have l0 : 0 < xs.length := by rw [hx]; decide
    obtain ⟨a0, r0, w0⟩ := (Rdr.w (rdr_int Try.underlying3)) (k0.trans (List.getElem?_eq_getElem l0)) (wt_struct Try.underlying42 hy hw (i := 0) rfl (List.getElem?_eq_getElem l0))
    have k1 : DataW.trod enc Try.prog w base spare held m 3 (List.take (Try.prog.cellsOf 3) (List.drop 1 [c0, c1, c2, c3, c4, c5])) = xs[1]? := hf 1 _ rfl
    have z1 : Try.prog.cellsOf 3 = 1 := by kernel_rfl
    simp only [z1, List.drop_succ_cons, List.drop_zero, List.take_succ_cons, List.take_zero] at k1
    have l1 : 1 < xs.length := by rw [hx]; decide
    obtain ⟨a1, r1, w1⟩ := (Rdr.w (rdr_int Try.underlying3)) (k1.trans (List.getElem?_eq_getElem l1)) (wt_struct Try.underlying42 hy hw (i := 1) rfl (List.getElem?_eq_getElem l1))
    have k2 : DataW.trod enc Try.prog w base spare held m 3 (List.take (Try.prog.cellsOf 3) (List.drop 2 [c0, c1, c2, c3, c4, c5])) = xs[2]? := hf 2 _ rfl
    have z2 : Try.prog.cellsOf 3 = 1 := by kernel_rfl
    simp only [z2, List.drop_succ_cons, List.drop_zero, List.take_succ_cons, List.take_zero] at k2
    have l2 : 2 < xs.length := by rw [hx]; decide
    obtain ⟨a2, r2, w2⟩ := (Rdr.w (rdr_int Try.underlying3)) (k2.trans (List.getElem?_eq_getElem l2)) (wt_struct Try.underlying42 hy hw (i := 2) rfl (List.getElem?_eq_getElem l2))
    have k3 : DataW.trod enc Try.prog w base spare held m 3 (List.take (Try.prog.cellsOf 3) (List.drop 3 [c0, c1, c2, c3, c4, c5])) = xs[3]? := hf 3 _ rfl
    have z3 : Try.prog.cellsOf 3 = 1 := by kernel_rfl
    simp only [z3, List.drop_succ_cons, List.drop_zero, List.take_succ_cons, List.take_zero] at k3
    have l3 : 3 < xs.length := by rw [hx]; decide
    obtain ⟨a3, r3, w3⟩ := (Rdr.w (rdr_int Try.underlying3)) (k3.trans (List.getElem?_eq_getElem l3)) (wt_struct Try.underlying42 hy hw (i := 3) rfl (List.getElem?_eq_getElem l3))
    have k4 : DataW.trod enc Try.prog w base spare held m 25 (List.take (Try.prog.cellsOf 25) (List.drop 4 [c0, c1, c2, c3, c4, c5])) = xs[4]? := hf 4 _ rfl
    have z4 : Try.prog.cellsOf 25 = 1 := by kernel_rfl
    simp only [z4, List.drop_succ_cons, List.drop_zero, List.take_succ_cons, List.take_zero] at k4
    have l4 : 4 < xs.length := by rw [hx]; decide
    obtain ⟨a4, r4, w4⟩ := (rdrw_sl Try.underlying25 (by kernel_rfl) (by decide) (of_decide_eq_true (by kernel_rfl)) rdrw_DValue) (k4.trans (List.getElem?_eq_getElem l4)) (wt_struct Try.underlying42 hy hw (i := 4) rfl (List.getElem?_eq_getElem l4))
    have k5 : DataW.trod enc Try.prog w base spare held m 25 (List.take (Try.prog.cellsOf 25) (List.drop 5 [c0, c1, c2, c3, c4, c5])) = xs[5]? := hf 5 _ rfl
    have z5 : Try.prog.cellsOf 25 = 1 := by kernel_rfl
    simp only [z5, List.drop_succ_cons, List.drop_zero, List.take_succ_cons, List.take_zero] at k5
    have l5 : 5 < xs.length := by rw [hx]; decide
    obtain ⟨a5, r5, w5⟩ := (rdrw_sl Try.underlying25 (by kernel_rfl) (by decide) (of_decide_eq_true (by kernel_rfl)) rdrw_DValue) (k5.trans (List.getElem?_eq_getElem l5)) (wt_struct Try.underlying42 hy hw (i := 5) rfl (List.getElem?_eq_getElem l5))
    obtain ⟨rfl, -⟩ := List.cons.inj (show [c0] = [_] from r0)
    obtain ⟨rfl, -⟩ := List.cons.inj (show [c1] = [_] from r1)
    obtain ⟨rfl, -⟩ := List.cons.inj (show [c2] = [_] from r2)
    obtain ⟨rfl, -⟩ := List.cons.inj (show [c3] = [_] from r3)
    obtain ⟨v4, e4, b4⟩ := r4
    obtain ⟨rfl, -⟩ := List.cons.inj e4
    obtain ⟨A4, q4, rfl, d4⟩ := b4
    have b4 : SlR rDValue _ _ (.slice A4 a4.length q4) a4 := ⟨_, _, rfl, d4⟩
    obtain ⟨v5, e5, b5⟩ := r5
    obtain ⟨rfl, -⟩ := List.cons.inj e5
    obtain ⟨A5, q5, rfl, d5⟩ := b5
    have b5 : SlR rDValue _ _ (.slice A5 a5.length q5) a5 := ⟨_, _, rfl, d5⟩
    exact ⟨⟨a0, a1, a2, a3, a4, a5⟩, ⟨_, _, _, _, _, _, rfl, b4, b5⟩, ⟨w0, w1, w2, w3, w4, w5⟩⟩
def wfwDMemory (x : DMemory) : Prop := (WfL (fun z22 => wfwDCell z22) x.Young) ∧ (WfL (fun z22 => wfwDCell z22) x.Old)
set_option maxRecDepth 100000 in
theorem rdrw_DMemory : Rdrw Try.prog 24 rDMemory wfwDMemory := fun {_ enc w base spare held _ cs y} h hw => by
  obtain ⟨xs, m, -, hy, hl, hx, hf⟩ := DataW.trod_struct Try.underlying24 h
  have hc : Try.prog.cellsOf 24 = 2 := by kernel_rfl
  rw [hc] at hl
  match cs, hl, hf with
  | [c0, c1], _, hf =>
    have k0 : DataW.trod enc Try.prog w base spare held m 22 (List.take (Try.prog.cellsOf 22) (List.drop 0 [c0, c1])) = xs[0]? := hf 0 _ rfl
    have z0 : Try.prog.cellsOf 22 = 1 := by kernel_rfl
    simp only [z0, List.drop_succ_cons, List.drop_zero, List.take_succ_cons, List.take_zero] at k0
    have l0 : 0 < xs.length := by rw [hx]; decide
    obtain ⟨a0, r0, w0⟩ := (rdrw_sl Try.underlying22 (by kernel_rfl) (by decide) (of_decide_eq_true (by kernel_rfl)) rdrw_DCell) (k0.trans (List.getElem?_eq_getElem l0)) (wt_struct Try.underlying24 hy hw (i := 0) rfl (List.getElem?_eq_getElem l0))
    have k1 : DataW.trod enc Try.prog w base spare held m 22 (List.take (Try.prog.cellsOf 22) (List.drop 1 [c0, c1])) = xs[1]? := hf 1 _ rfl
    have z1 : Try.prog.cellsOf 22 = 1 := by kernel_rfl
    simp only [z1, List.drop_succ_cons, List.drop_zero, List.take_succ_cons, List.take_zero] at k1
    have l1 : 1 < xs.length := by rw [hx]; decide
    obtain ⟨a1, r1, w1⟩ := (rdrw_sl Try.underlying22 (by kernel_rfl) (by decide) (of_decide_eq_true (by kernel_rfl)) rdrw_DCell) (k1.trans (List.getElem?_eq_getElem l1)) (wt_struct Try.underlying24 hy hw (i := 1) rfl (List.getElem?_eq_getElem l1))
    obtain ⟨v0, e0, b0⟩ := r0
    obtain ⟨rfl, -⟩ := List.cons.inj e0
    obtain ⟨A0, q0, rfl, d0⟩ := b0
    have b0 : SlR rDCell _ _ (.slice A0 a0.length q0) a0 := ⟨_, _, rfl, d0⟩
    obtain ⟨v1, e1, b1⟩ := r1
    obtain ⟨rfl, -⟩ := List.cons.inj e1
    obtain ⟨A1, q1, rfl, d1⟩ := b1
    have b1 : SlR rDCell _ _ (.slice A1 a1.length q1) a1 := ⟨_, _, rfl, d1⟩
    exact ⟨⟨a0, a1⟩, ⟨_, _, _, _, _, _, rfl, b0, b1⟩, ⟨w0, w1⟩⟩
set_option maxRecDepth 100000 in
theorem arg_24 {H : Type} {enc : TypeId × Value → H} {W : World} {r : Reach} {b0 : Nat} {base : Nat} {spare : Nat → Bool} {held : Bool} {v : Value} {d : DataW H} {p : List MemPlace}
    (hv : Value.okWide Try.prog W r b0 24 v) (h : DataW.Trod enc Try.prog W base spare held 24 v d p) (hz : Light Try.prog 24 d) : ∃ (m : DMemory) (Aq_0 : Option Addr) (nq_0 cq_0 : Nat) (Aq_1 : Option Addr) (nq_1 cq_1 : Nat), v = .agg #[.slice Aq_0 nq_0 cq_0, .slice Aq_1 nq_1 cq_1] ∧ (wfwDMemory m) ∧ (slC rDCell (.slice Aq_0 nq_0 cq_0) m.Young).ok (fun _ => False) (fun q => q < W.heap.size) W ∧ (slC rDCell (.slice Aq_1 nq_1 cq_1) m.Old).ok (fun _ => False) (fun q => q < W.heap.size) W := by
  obtain ⟨cs, rfl, -⟩ := okWide_struct Try.underlying24 hv
  obtain ⟨fuel, hf⟩ := h
  obtain ⟨m, ⟨Aq_0, nq_0, cq_0, Aq_1, nq_1, cq_1, e, hq_0, hq_1⟩, hw⟩ := rdrw_DMemory hf hz
  obtain ⟨l⟩ := cs
  have hx : l = [.slice Aq_0 nq_0 cq_0, .slice Aq_1 nq_1 cq_1] := e
  exact ⟨m, Aq_0, nq_0, cq_0, Aq_1, nq_1, cq_1, by rw [hx], hw, hq_0, hq_1⟩
set_option maxRecDepth 100000 in
theorem arg_25 {H : Type} {enc : TypeId × Value → H} {W : World} {r : Reach} {b0 : Nat} {base : Nat} {spare : Nat → Bool} {held : Bool} {v : Value} {d : DataW H} {p : List MemPlace}
    (hv : Value.okWide Try.prog W r b0 25 v) (h : DataW.Trod enc Try.prog W base spare held 25 v d p) (hz : Light Try.prog 25 d) : ∃ (m : (List DValue)) (Aq_0 : Option Addr) (nq_0 cq_0 : Nat), v = .slice Aq_0 nq_0 cq_0 ∧ (WfL (fun z25 => wfwDValue z25) m) ∧ (slC rDValue (.slice Aq_0 nq_0 cq_0) m).ok (fun _ => False) (fun q => q < W.heap.size) W := by
  obtain ⟨A, n, c, rfl⟩ := okWide_slice Try.underlying25 hv
  obtain ⟨fuel, hf⟩ := h
  obtain ⟨m, ⟨u, e, h1⟩, hw⟩ := (rdrw_sl Try.underlying25 (by kernel_rfl) (by decide) (of_decide_eq_true (by kernel_rfl)) rdrw_DValue) hf hz
  obtain ⟨rfl, -⟩ := List.cons.inj (show [_] = [_] from e)
  exact ⟨m, A, n, c, rfl, hw, h1⟩
end Go.Proofs.Ytmbaennilhdieaa
