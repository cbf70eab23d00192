/- A memory as an argument. -/
import Derived.Test.YtancgbfkpoeffaaRd4
import Derived.Test.YtancgbfkpoeffaaRp3
namespace Go.Proofs.Ytancgbfkpoeffaa
open Go.RowKit Go.ChangeShapes Go.WideShapes Go.Deep

theorem mem_of_trod {H : Type} {enc : TypeId × Value → H} {W : World} {r : Reach} {b0 : Nat} {base : Nat} {spare : Nat → Bool} {held : Bool} {v : Value} {d : DataW H} {p : List MemPlace}
    (hv : Value.okWide Try.prog W r b0 42 v) (h : DataW.Trod enc Try.prog W base spare held 42 v d p) : ∃ (m : DMemory) (A1 : Option Addr) (n1 c1 : Nat) (A2 : Option Addr) (n2 c2 : Nat), v = .agg #[.slice A1 n1 c1, .slice A2 n2 c2] ∧ wfDMemory m ∧ (slC rDCell (.slice A1 n1 c1) m.Young).ok (fun _ => False) (fun q => q < W.heap.size) W ∧ (slC rDCell (.slice A2 n2 c2) m.Old).ok (fun _ => False) (fun q => q < W.heap.size) W := by
  obtain ⟨cs, rfl, -⟩ := okWide_struct Try.underlying42 hv
  obtain ⟨fuel, hf⟩ := h
  obtain ⟨m, ⟨A1, n1, c1, A2, n2, c2, e, h1, h2⟩, hw⟩ := rdr_DMemory hf
  obtain ⟨l⟩ := cs
  have hx' : l = [.slice A1 n1 c1, .slice A2 n2 c2] := e
  exact ⟨m, A1, n1, c1, A2, n2, c2, by rw [hx'], hw, h1, h2⟩
theorem nobody_law (a0 : Int) {W : World} (m : DMemory) {A1 : Option Addr} {n1 c1 : Nat} {A2 : Option Addr} {n2 c2 : Nat} (h1 : (slC rDCell (.slice A1 n1 c1) m.Young).ok (fun _ => False) (fun q => q < W.heap.size) W) (h2 : (slC rDCell (.slice A2 n2 c2) m.Old).ok (fun _ => False) (fun q => q < W.heap.size) W) : Calls Try.prog 5 #[.int .i64 a0, .agg #[.slice A1 n1 c1, .slice A2 n2 c2]] W fun e W' => e = .returned (.bool true) ∧ Ext W W' :=
  calls_of_okc (pantomimelaw21_RemsetNobody_ok (nobody_spec 6000 (by decide) a0 m)) (start_cons (start_cons (start_nil W) h2) h1)
end Go.Proofs.Ytancgbfkpoeffaa
