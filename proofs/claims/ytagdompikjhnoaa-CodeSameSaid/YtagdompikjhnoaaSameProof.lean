/-
  PROVED: CodeSame returns true for every three code objects: Same compares images as the reference does, is reflexive, and tells images of different lengths apart. No condition.
-/
import Derived.Test.YtagdompikjhnoaaSameLaw
import Derived.Test.YtagdompikjhnoaaRead
import Derived.ProofKit
import Derived.OpenShut
import Derived.ShutString
import Derived.ChangeOld
namespace Go.Proofs.Ytagdompikjhnoaa
open Go.ChangeShapes Go.WideShapes Go.ChangeAt Go.RowKit Go.Deep

set_option maxRecDepth 100000 in
theorem isCode_of_trod {H : Type} {enc : TypeId × Value → H} {W : World} {r : Reach} {b0 : Nat} {base : Nat} {spare : Nat → Bool} {held : Bool} {v : Value} {d : DataW H} {p : List MemPlace}
    (hv : Value.okWide Try.prog W r b0 31 v) (h : DataW.Trod enc Try.prog W base spare held 31 v d p) : ∃ c, IsCode W v c := by
  obtain ⟨cs, rfl, hsz⟩ := okWide_struct Try.underlying31 hv
  obtain ⟨fuel, hf⟩ := h
  obtain ⟨hl, m, hg⟩ := fields_of Try.underlying31 (by kernel_rfl) (by kernel_rfl) hf
  obtain ⟨l⟩ := cs
  match l, hl with
  | [c0, c1, c2, c3, c4, c5, c6, c7], _ =>
    obtain ⟨v0, z0, e0, k0⟩ := hg 0 _ rfl
    obtain ⟨v1, z1, e1, k1⟩ := hg 1 _ rfl
    obtain ⟨v2, z2, e2, k2⟩ := hg 2 _ rfl
    obtain ⟨v3, z3, e3, k3⟩ := hg 3 _ rfl
    obtain ⟨v4, z4, e4, k4⟩ := hg 4 _ rfl
    obtain ⟨v5, z5, e5, k5⟩ := hg 5 _ rfl
    obtain ⟨v6, z6, e6, k6⟩ := hg 6 _ rfl
    obtain ⟨v7, z7, e7, k7⟩ := hg 7 _ rfl
    simp only [Value.cells, List.getElem?_cons_zero, List.getElem?_cons_succ, Option.some.injEq] at e0 e1 e2 e3 e4 e5 e6 e7
    subst e0 e1 e2 e3 e4 e5 e6 e7
    obtain ⟨s, r0, -⟩ := DataW.trod_string Try.underlying9 k0
    obtain ⟨n1, r1, -⟩ := DataW.trod_int Try.underlying3 k1
    obtain ⟨n2, r2, -⟩ := DataW.trod_int Try.underlying3 k2
    obtain ⟨n3, r3, -⟩ := DataW.trod_int Try.underlying3 k3
    obtain ⟨w4, x4, r4, s4⟩ := sl_of_trod 4 en4 Try.underlying26 (by kernel_rfl) (by omega) (fun n cs' y hy => row4 Try.underlying42 (by kernel_rfl) (by kernel_rfl) Try.underlying3 Try.underlying3 Try.underlying3 Try.underlying3 hy) k4
    obtain ⟨w5, x5, r5, s5⟩ := sl_of_trod 3 en3 Try.underlying27 (by kernel_rfl) (by omega) (fun n cs' y hy => row3 Try.underlying47 (by kernel_rfl) (by kernel_rfl) Try.underlying3 Try.underlying3 Try.underlying9 hy) k5
    obtain ⟨w6, x6, r6, s6⟩ := sl_of_trod 3 en3 Try.underlying28 (by kernel_rfl) (by omega) (fun n cs' y hy => row3 Try.underlying48 (by kernel_rfl) (by kernel_rfl) Try.underlying3 Try.underlying3 Try.underlying9 hy) k6
    obtain ⟨w7, x7, r7, s7⟩ := sl_of_trod 4 en4 Try.underlying29 (by kernel_rfl) (by omega) (fun n cs' y hy => row4 Try.underlying61 (by kernel_rfl) (by kernel_rfl) Try.underlying3 Try.underlying3 Try.underlying3 Try.underlying3 hy) k7
    simp only [List.cons.injEq, and_true] at r0 r1 r2 r3 r4 r5 r6 r7
    subst r0 r1 r2 r3 r4 r5 r6 r7
    exact ⟨⟨s, n1, n2, n3, x4, x5, x6, x7⟩, _, _, _, _, rfl, s4, s5, s6, s7⟩

namespace codeSame
theorem own : ownKnob Try.prog.godebug = none := by kernel_rfl
theorem laidOut : laidOutB Try.prog = true := by kernel_rfl

set_option maxRecDepth 100000 in
theorem lifted (os : Os) (started : os.Started) (H : Type) (enc : TypeId × Value → H) :
    ReturnsInHanded {} Try.checked os 4 .any (Rows.codeSameSpec.pre6 enc Try.prog Try.f4 Rows.codeSameRow.domain false) (Rows.codeSameSpec.post enc Try.prog Try.f4 false true false false) := by
  refine returnsInHanded_of_change (C := Try.checked) own started (by kernel_rfl) Try.func4
    (ChangeSpec.witness6 (enc := enc) (C := Try.checked) false ⟨#[], #[.agg #[.string ⟨#[]⟩, .int .i64 0, .int .i64 0, .int .i64 0, .slice none 0 0, .slice none 0 0, .slice none 0 0, .slice none 0 0], .agg #[.string ⟨#[]⟩, .int .i64 0, .int .i64 0, .int .i64 0, .slice none 0 0, .slice none 0 0, .slice none 0 0, .slice none 0 0], .agg #[.string ⟨#[]⟩, .int .i64 0, .int .i64 0, .int .i64 0, .slice none 0 0, .slice none 0 0, .slice none 0 0, .slice none 0 0]], []⟩ 8 (by kernel_rfl) (by kernel_rfl) (by kernel_rfl) (by kernel_rfl)) ?_
  intro W base args ds gs before hval0 hW hcnd _
  have hval : ∀ (j : Nat) t v, Try.f4.params[j]? = some t → args[j]? = some v → Value.okWide Try.prog W .any base t v := hval0
  have hW' := hW
  obtain ⟨p, q, hA0, hV, rfl, hfz, hnd⟩ := hW
  have hA : DataW.TrodAll enc Try.prog W 0 (fun _ => true) true Try.f4.params.toList args.toList ds p := hA0
  rw [Try.params4] at hA hval
  obtain ⟨v0, vs0, d0, ds0, p0, q0, hargs, rfl, rfl, h0, r0⟩ := trodAll_cons hA
  obtain ⟨v1, vs1, d1, ds1, p1, q1, rfl, rfl, rfl, h1, r1⟩ := trodAll_cons r0
  obtain ⟨v2, vs2, d2, ds2, p2, q2, rfl, rfl, rfl, h2, r2⟩ := trodAll_cons r1
  obtain ⟨rfl, rfl, rfl⟩ := trodAll_nil r2
  obtain rfl : args = #[v0, v1, v2] := by cases args; simp_all
  obtain ⟨rfl, rfl⟩ := trodVars_none hV
  have lt0 : ∀ x ∈ p0, x.block < W.heap.size := by obtain ⟨m, hm⟩ := h0; exact DataW.trod_lt m _ _ _ hm
  have lt1 : ∀ x ∈ p1, x.block < W.heap.size := by obtain ⟨m, hm⟩ := h1; exact DataW.trod_lt m _ _ _ hm
  have lt2 : ∀ x ∈ p2, x.block < W.heap.size := by obtain ⟨m, hm⟩ := h2; exact DataW.trod_lt m _ _ _ hm
  obtain ⟨a, ia⟩ := isCode_of_trod (hval 0 31 v0 rfl rfl) h0
  obtain ⟨b, ib⟩ := isCode_of_trod (hval 1 31 v1 rfl rfl) h1
  obtain ⟨c, ic⟩ := isCode_of_trod (hval 2 31 v2 rfl rfl) h2
  clear hA0 hval0
  refine (codeSame_walk v0 v1 v2 a b c W ia ib ic).mono fun e W' ⟨he, bel⟩ => ?_
  subst he
  exact ⟨_, rfl, _, _, _, [], _, [], hW', trodAll_mk1 (shut_bool Try.underlying4 _), (trodAll_cons_mk (Below.trod laidOut (by kernel_rfl) (of_decide_eq_true (by kernel_rfl)) h0 bel lt0) (trodAll_cons_mk (Below.trod laidOut (by kernel_rfl) (of_decide_eq_true (by kernel_rfl)) h1 bel lt1) (trodAll_cons_mk (Below.trod laidOut (by kernel_rfl) (of_decide_eq_true (by kernel_rfl)) h2 bel lt2) trodAll_mk0))), rfl, bel.frame _, fun h => by cases h⟩

theorem over : Rows.codeSameRow.holds Try.pinned (OpenSpec.ofChange Rows.codeSameSpec) :=
  OpenClaim.holds_of_wide 4 Try.f4 rfl rfl rfl rfl rfl rfl rfl ⟨rfl, rfl, rfl, rfl, rfl⟩ rfl rfl rfl rfl rfl (by kernel_rfl) Try.func4 (by kernel_rfl)
    (of_decide_eq_true (by kernel_rfl)) (by unfold Func.isWrapper; first | (rw [if_pos (by decide +kernel)]; kernel_rfl) | (rw [if_neg (by decide +kernel)]; exact ⟨rfl, rfl⟩))
    (fun os started H enc _ => lifted os started H enc)

theorem proved : Rows.CodeSameSaid := over
#print axioms proved
end codeSame
end Go.Proofs.Ytagdompikjhnoaa
