/- The walk over chunks: rules in the form in which walks are printed. Over any program. -/
import Derived.Test.YtmbaennilhdieaaA6
namespace Go.Proofs.Ytmbaennilhdieaa
open Go.RowKit
section
variable {X : Cx} {ops : Array Oper} {K : K3} {s : Env} {L : List Chunk} {rest : List Oper} {d : Nat} {op : Op} {ty : TypeId} {pos : String} {af : Array Edge} {gd : Option (Nat × Bool)}
theorem G_opd {R : Value → List Chunk → Prop} (h : OpX X.P s L ⟨some d, op, ty, pos, af, gd⟩ R) (hn : ndef ⟨some d, op, ty, pos, af, gd⟩ = true) (hg : guardE ops s ⟨some d, op, ty, pos, af, gd⟩ = some true) (hd : Nat.ble (d + 1) X.n = true) (k : ∀ v L', R v L' → RunG X ops rest K ((d, v) :: s) L') : RunG X ops (⟨some d, op, ty, pos, af, gd⟩ :: rest) K s L := G_op h hn hg hd k
theorem G_opn {R : Value → List Chunk → Prop} (h : OpX X.P s L ⟨none, op, ty, pos, af, gd⟩ R) (hn : ndef ⟨none, op, ty, pos, af, gd⟩ = true) (hg : guardE ops s ⟨none, op, ty, pos, af, gd⟩ = some true) (k : ∀ v L', R v L' → RunG X ops rest K s L') : RunG X ops (⟨none, op, ty, pos, af, gd⟩ :: rest) K s L := G_op h hn hg rfl k
theorem G_norm {L' : List Chunk} (L : List Chunk) {l : List Oper} (h : L' = L) (k : RunG X ops l K s L) : RunG X ops l K s L' := h ▸ k
theorem T3_norm {M L' : List Chunk} (L : List Chunk) {fuel : Nat} {listed : Array Bool} (h : L' = L) (k : TkG X ops K M fuel listed s L) : TkG X ops K M fuel listed s L' := h ▸ k
theorem T3_opd {M : List Chunk} {fuel : Nat} {listed : Array Bool} (i : Nat) {R : Value → List Chunk → Prop} (hi : ops[i]? = some ⟨some d, op, ty, pos, af, gd⟩) (hr : Region.ready .any ops listed = [i]) (h : OpX X.P s L ⟨some d, op, ty, pos, af, gd⟩ R) (hn : ndef ⟨some d, op, ty, pos, af, gd⟩ = true) (hg : guardE ops s ⟨some d, op, ty, pos, af, gd⟩ = some true) (hd : Nat.ble (d + 1) X.n = true) (k : ∀ v L', R v L' → ∃ M', Cv L' M' ∧ Cv M' M ∧ TkG X ops K M' fuel (listed.setIfInBounds i true) ((d, v) :: s) L') : TkG X ops K M (fuel + 1) listed s L := T3_op i hi hr h hn hg hd k
theorem T3_opn {M : List Chunk} {fuel : Nat} {listed : Array Bool} (i : Nat) {R : Value → List Chunk → Prop} (hi : ops[i]? = some ⟨none, op, ty, pos, af, gd⟩) (hr : Region.ready .any ops listed = [i]) (h : OpX X.P s L ⟨none, op, ty, pos, af, gd⟩ R) (hn : ndef ⟨none, op, ty, pos, af, gd⟩ = true) (hg : guardE ops s ⟨none, op, ty, pos, af, gd⟩ = some true) (k : ∀ v L', R v L' → ∃ M', Cv L' M' ∧ Cv M' M ∧ TkG X ops K M' fuel (listed.setIfInBounds i true) s L') : TkG X ops K M (fuel + 1) listed s L := T3_op i hi hr h hn hg rfl k
theorem G_segb (k pd : Nat) (b : Bool) {l : List Oper} (h1 : RunG X ops (l.take k) (JoinG ((pd, .bool b) :: s) L) s L) (h2 : RunG X ops (l.drop k) K ((pd, .bool b) :: s) L) : RunG X ops l K s L := G_seg k _ _ h1 h2
/-- several ways meet again -/
theorem G_joinF {x y : Code} (Fam : Env → List Chunk → Prop) (h1 : Wq X x (nx (fun s L => ∃ s2 L2, Fam s2 L2 ∧ Sub s s2 ∧ Cv L L2) K) s L) (h2 : ∀ s2 L2, Fam s2 L2 → Wq X y K s2 L2) : Wq X (.seq x y) K s L :=
  G_seq (G_mono h1 fun e s L h => by
    cases e with
    | normal => obtain ⟨s2, L2, g1, g2, g3⟩ := h; exact G_sub (h2 s2 L2 g1) g2 g3
    | _ => exact h)
theorem G_loopF {c : Code} (Fam : Nat → Env → List Chunk → Prop) (m0 : Nat) (s0 : Env) (L0 : List Chunk) (h0 : Fam m0 s0 L0) (hs : Sub s s0) (hl : Cv L L0)
    (round : ∀ m s2 L2, Fam m s2 L2 → Wq X c (nx (fun s' L' => ∃ m' s3 L3, m' < m ∧ Fam m' s3 L3 ∧ Sub s' s3 ∧ Cv L' L3) K) s2 L2) : Wq X (.loop c) K s L :=
  G_loop (ι := Env × List Chunk) (fun i => i.1) (fun i => i.2) (fun m i => Fam m i.1 i.2) m0 (s0, L0) h0 hs hl fun m i hi => G_mono (round m i.1 i.2 hi) fun e s L h => by
    cases e with
    | normal => obtain ⟨m', s3, L3, h1, h2, h3, h4⟩ := h; exact ⟨m', (s3, L3), h1, h2, h3, h4⟩
    | _ => exact h
theorem Wq_norm {L' : List Chunk} (L : List Chunk) {c : Code} (h : L' = L) (k : Wq X c K s L) : Wq X c K s L' := h ▸ k
end
section
variable {P : Program} {s : Env} {C : World → Prop} {d : Option Nat} {ty : TypeId} {pos : String} {af : Array Edge} {gd : Option (Nat × Bool)}
theorem ev_beq {t u : TypeId} {x y : Operand} {a b : Bool} (hx : evE s x = some (.bool a)) (hy : evE s y = some (.bool b)) (ht : P.underlying t = some .bool) : Ev P s C ⟨d, .binOp .eql t x y u, ty, pos, af, gd⟩ (.bool (a == b)) :=
  ev_bin hx hy fun w => by rw [Sem.run_bind]; show (binOp .eql t (.bool a) (.bool b)).run P w = _; exact run_eql_bool w t a b ht
end
theorem none_some {α : Type} {r : α} {p : Prop} (h : none = some r) : p := by cases h
theorem toNat_lt {k : Int} {n : Nat} (h0 : 0 ≤ k) (h1 : k < n) : k.toNat < n := by omega
section
variable {P : Program} {s : Env} {L : List Chunk} {d : Option Nat} {ty : TypeId} {pos : String} {af : Array Edge} {gd : Option (Nat × Bool)}
theorem rd_fa0 {α : Type} {R : Rep α} {t f sz off : Nat} {x : Operand} {v : Value} {xs : List α} {c : Chunk} {k : Nat} (i : Nat) (hi : L[i]? = some c) (he : Els R v xs c) (hx : evE s x = some (elemQ v k sz off)) (h1 : k < xs.length) (hr : ∀ b o w, (Instr.fieldAt t (.pointer (some ⟨b, o, none⟩)) f).run P w = .ok (.pointer (some ⟨b, o, none⟩)) w) : Rd P s L ⟨d, .fieldAddr t x f, ty, pos, af, gd⟩ (elemQ v k sz off) := fun Z w hw => by
  obtain ⟨T, S, h⟩ := hw.get (fr_get hi)
  obtain ⟨A, cap, rfl, -, -, h4⟩ := he _ _ _ h
  obtain ⟨b, o, vss, rfl, -⟩ := h4 (by omega)
  exact ev_fa0 (o := o + k * sz + off) hx hr
end
end Go.Proofs.Ytmbaennilhdieaa
