/- An api.Code that comes in: what it holds. -/
import Derived.Test.YtagdompikjhnoaaRight
import Derived.Test.YtagdompikjhnoaaRead2
import Derived.ProofKit
namespace Go.Proofs.Ytagdompikjhnoaa
open Go.ChangeShapes Go.WideShapes Go.ChangeAt Go.RowKit Go.Deep

set_option maxRecDepth 100000 in
theorem isCode2_of_trod {H : Type} {enc : TypeId × Value → H} {W : World} {r : Reach} {b0 : Nat} {base : Nat} {spare : Nat → Bool} {held : Bool} {v : Value} {d : DataW H} {p : List MemPlace}
    (hv : Value.okWide Try.prog W r b0 31 v) (h : DataW.Trod enc Try.prog W base spare held 31 v d p) : ∃ c, IsCode W v c ∧ InRange c := by
  obtain ⟨cs, rfl, hsz⟩ := okWide_struct Try.underlying31 hv
  obtain ⟨fuel, hf⟩ := h
  obtain ⟨hl, m, hg⟩ := fields_of Try.underlying31 (by kernel_rfl) (by kernel_rfl) hf
  obtain ⟨l⟩ := cs
  match l, hl with
  | [c0, c1, c2, c3, c4, c5, c6, c7], _ =>
    obtain ⟨v0, z0, e0, k0⟩ := hg 0 _ rfl
    obtain ⟨v1, z1, e1, k1⟩ := hg 1 _ rfl
    obtain ⟨v2, z2, e2, k2⟩ := hg 2 _ rfl
    obtain ⟨v3, z3, e3, k3⟩ := hg 3 _ rfl
    obtain ⟨v4, z4, e4, k4⟩ := hg 4 _ rfl
    obtain ⟨v5, z5, e5, k5⟩ := hg 5 _ rfl
    obtain ⟨v6, z6, e6, k6⟩ := hg 6 _ rfl
    obtain ⟨v7, z7, e7, k7⟩ := hg 7 _ rfl
    simp only [Value.cells, List.getElem?_cons_zero, List.getElem?_cons_succ, Option.some.injEq] at e0 e1 e2 e3 e4 e5 e6 e7
    subst e0 e1 e2 e3 e4 e5 e6 e7
    obtain ⟨s, r0, -⟩ := DataW.trod_string Try.underlying9 k0
    obtain ⟨n1, r1, -⟩ := DataW.trod_int Try.underlying3 k1
    obtain ⟨n2, r2, -⟩ := DataW.trod_int Try.underlying3 k2
    obtain ⟨n3, r3, -⟩ := DataW.trod_int Try.underlying3 k3
    obtain ⟨w4, x4, r4, s4, i4⟩ := sl_of_trod2 4 en4 R4 Try.underlying26 (by kernel_rfl) (by omega) (fun n cs' y hy => row4r Try.underlying42 (by kernel_rfl) (by kernel_rfl) Try.underlying3 Try.underlying3 Try.underlying3 Try.underlying3 hy) k4
    obtain ⟨w5, x5, r5, s5⟩ := sl_of_trod 3 en3 Try.underlying27 (by kernel_rfl) (by omega) (fun n cs' y hy => row3 Try.underlying47 (by kernel_rfl) (by kernel_rfl) Try.underlying3 Try.underlying3 Try.underlying9 hy) k5
    obtain ⟨w6, x6, r6, s6⟩ := sl_of_trod 3 en3 Try.underlying28 (by kernel_rfl) (by omega) (fun n cs' y hy => row3 Try.underlying48 (by kernel_rfl) (by kernel_rfl) Try.underlying3 Try.underlying3 Try.underlying9 hy) k6
    obtain ⟨w7, x7, r7, s7⟩ := sl_of_trod 4 en4 Try.underlying29 (by kernel_rfl) (by omega) (fun n cs' y hy => row4 Try.underlying61 (by kernel_rfl) (by kernel_rfl) Try.underlying3 Try.underlying3 Try.underlying3 Try.underlying3 hy) k7
    simp only [List.cons.injEq, and_true] at r0 r1 r2 r3 r4 r5 r6 r7
    subst r0 r1 r2 r3 r4 r5 r6 r7
    exact ⟨⟨s, n1, n2, n3, x4, x5, x6, x7⟩, ⟨_, _, _, _, rfl, s4, s5, s6, s7⟩, fun x hx => ⟨(i4 x hx).2.1.2, (i4 x hx).2.2.1.2, (i4 x hx).2.2.2.2⟩⟩

end Go.Proofs.Ytagdompikjhnoaa
