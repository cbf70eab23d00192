/- The walk over chunks: more operations. Over any program. -/
import Derived.Test.YtmbaennilhdieaaA14
namespace Go.Proofs.Ytmbaennilhdieaa
open Go.RowKit
section
variable {P : Program} {s : Env} {C : World → Prop} {d : Option Nat} {ty : TypeId} {pos : String} {af : Array Edge} {gd : Option (Nat × Bool)}
/-! slices compared with nil -/
theorem run_slnil {t e : TypeId} (ht : P.underlying t = some (.slice e)) (A : Option Addr) (n c : Nat) (w : World) : (Op.equal t (.slice A n c) (.slice none 0 0)).run P w = .ok A.isNone w := by
  show (Op.equalIn (9999 + 1) t (.slice A n c) (.slice none 0 0)).run P w = _
  unfold Op.equalIn
  rw [Sem.run_bind, run_underlying ht, Result.andThen_ok]
  cases A <;> rfl
theorem ev_slnil_eq {t e u : TypeId} {x : Operand} {A : Option Addr} {n c : Nat} (hx : evE s x = some (.slice A n c)) (ht : P.underlying t = some (.slice e)) : Ev P s C ⟨d, .binOp .eql t x (.const (.slice none 0 0)) u, ty, pos, af, gd⟩ (.bool A.isNone) :=
  ev_bin hx rfl fun w => by
    rw [Sem.run_bind]
    show (binOp .eql t (.slice A n c) (.slice none 0 0)).run P w = _
    have h1 : (Op.equal t (.slice A n c) (.slice none 0 0)).run P w = .ok A.isNone w := run_slnil ht A n c w
    simp only [binOp, Sem.run_bind, h1, Result.andThen_ok]
    rfl
theorem ev_min {t u : TypeId} {x y : Operand} {k k2 : IntKind} {a b : Int} (hx : evE s x = some (.int k a)) (hy : evE s y = some (.int k b)) (ht : P.underlying t = some (.int k2)) (hu : P.underlying u = some (.int k2)) : Ev P s C ⟨d, .call ⟨.builtin .min, #[x, y], #[t, u]⟩, ty, pos, af, gd⟩ (.int k (min a b)) := fun ρ hρ w _ => by
  rw [run_builtin (P := P) (ρ := ρ) (xs := [x, y]) (vs := [.int k a, .int k b]) (by simp [hρ x _ hx, hρ y _ hy]) w]
  have e : (if b < a then b else a) = min a b := by rw [Int.min_def]; split <;> split <;> omega
  cases k <;> simp [builtin, Builtin.min_, Builtin.min2, e]
end
/-! values that follow from what is known, in any world -/
def RdQ (P : Program) (s : Env) (L : List Chunk) (o : Oper) (v : Value) : Prop := ∀ Z w, Sp Z L w → Ev P s (fun _ => True) o v
section
variable {P : Program} {s : Env} {L : List Chunk} {d : Option Nat} {ty : TypeId} {pos : String} {af : Array Edge} {gd : Option (Nat × Bool)}
end
theorem fn_cells {α β : Type} {P : Program} {v : Value} {G : List Chunk} {en : α → List Value} {ev : β → Value} {φ : α → Option β} (h : FnOk P v G en ev φ) : v.cells.toList = [v] := by obtain ⟨_, f, bs, caps, rfl, _⟩ := h; rfl
theorem bytes_eq {a b : ByteArray} : a.toList = b.toList ↔ a = b := by
  constructor
  · intro h
    rw [ByteArray.toList_eq, ByteArray.toList_eq] at h
    exact WideShapes.bytes_inj h
  · rintro rfl; rfl
theorem G_isnil {X : Cx} {K : K3} {s : Env} {L : List Chunk} {cd : Code} {α : Type} {R : Rep α} {A : Option Addr} {n c : Nat} {xs : List α} {ch : Chunk} (i : Nat) (hi : L[i]? = some ch) (he : Els R (.slice A n c) xs ch) (hA : A.isNone = true) (k : xs = [] → Wq X cd K s L) : Wq X cd K s L := fun H Ds a w ha hd hw => by
  obtain ⟨T, S, h⟩ := hw.get (fr_get hi)
  obtain ⟨A', cap, e, h1, h2, h3⟩ := he _ _ _ h
  have hx : xs = [] := by
    rcases Nat.eq_zero_or_pos xs.length with h0 | h0
    · exact List.eq_nil_of_length_eq_zero h0
    · obtain ⟨b, o, vss, e2, -⟩ := h3 h0
      injection e with e
      rw [e, e2] at hA; cases hA
  exact k hx H Ds a w ha hd hw
section
variable {P : Program} {s : Env} {L : List Chunk} {d : Option Nat} {ty : TypeId} {pos : String} {af : Array Edge} {gd : Option (Nat × Bool)}
/-- a call of a function value that is known -/
theorem op_callc {f : FuncId} {x : Operand} {xs : List Operand} {ats : Array TypeId} {vs us : List Value} {caps : Array Value} {pre rest : List Chunk} {R : Value → List Chunk → Prop} (hc : Okc P f us pre R) (hf : Callable P f) (hx : evE s x = some (.func (.func f) #[] caps)) (hv : evs s xs = some vs) (hu : vs ++ caps.toList = us) (hL : Cv L (pre ++ rest)) : OpX P s L ⟨d, .call ⟨.value x, xs.toArray, ats⟩, ty, pos, af, gd⟩ fun u L' => ∃ post, R u post ∧ L' = post ++ rest := fun ρ hρ Z w hw => by
  subst hu
  refine .inr (.inr (.inl ⟨f, _, run_callv hf (evs_map hρ hv) (hρ _ _ hx), ?_⟩))
  have h1 : Sp (rest ++ Z) pre w := by have := hL Z w hw; unfold Sp at *; simpa only [List.append_assoc] using this
  refine (hc _ w h1).mono ?_
  rintro e w' ⟨v, post, rfl, h2, h3⟩
  exact ⟨v, post ++ rest, rfl, by unfold Sp at *; simpa only [List.append_assoc] using h2, post, h3, rfl⟩
end
theorem lent_grow {α : Type} {R : Rep α} {e : TypeId} {v vw : Value} {xs : List α} {k i : Nat} {L : List Chunk} (hi : L[i]? = some (growC R e v xs vw k)) : Lent L (slC R v xs) := fun T S w h => by
  obtain ⟨vss, h1, h2⟩ := grow_own (h.ok hi)
  rcases h2 with ⟨h2, -⟩ | ⟨h0, A, rfl⟩
  · rcases h2.2 with ⟨rfl, h0⟩ | ⟨g, cap, cur, rfl, g1, g2, g3, g4, g5, g6⟩
    · exact ⟨none, 0, by rw [h0], by omega, by omega, fun h => absurd h (by omega)⟩
    · exact ⟨_, cap, rfl, g3, by unfold maxLen at g4; omega, fun _ => ⟨g, 0, vss, rfl, Blk.lt (t := e) (cs := cur) g2, Blk.lt (t := e) (cs := cur) g2, h1.imp fun _ _ => R.mono fun _ hq => h.lts hq, own_cells (cap := cap) g2 g6⟩⟩
  · exact ⟨A, 0, by rw [h0], by omega, by omega, fun h => absurd h (by omega)⟩
end Go.Proofs.Ytmbaennilhdieaa
