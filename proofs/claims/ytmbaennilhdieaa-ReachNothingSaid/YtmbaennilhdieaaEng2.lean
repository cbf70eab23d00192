/- The walk by small steps: memory. Over any program. -/
import Derived.Test.YtmbaennilhdieaaEng
namespace Go.Proofs.Ytmbaennilhdieaa
open Go.RowKit

/-- from cell o of block b on lie these cells -/
def CellsAt (w : World) (b o : Nat) (l : List Value) : Prop := ∀ j u, l[j]? = some u → w.cell? ⟨b, o + j, none⟩ = some u
def oneB (P : Program) (t : TypeId) : Bool := match P.underlying t with | some (.struct _) | some (.array _ _) | none => false | _ => true
def aggB (P : Program) (t : TypeId) (sz : Nat) : Bool := (match P.underlying t with | some (.struct _) | some (.array _ _) => true | _ => false) && (match P.info? t with | some i => Nat.beq i.size sz | none => false)
def sizeB (P : Program) (t : TypeId) (sz : Nat) : Bool := match P.info? t with | some i => Nat.beq i.size sz | none => false
theorem here {w : World} {p : World → Prop} (h : p w) : ∀ w', w' = w → p w' := fun _ e => e ▸ h
theorem sizeB_run {P : Program} {t : TypeId} {sz : Nat} (h : sizeB P t sz = true) (w : World) : (sizeOf t).run P w = .ok sz w := by
  unfold sizeB at h
  cases hi : P.info? t with
  | none => rw [hi] at h; cases h
  | some i =>
    rw [hi] at h
    have := Nat.eq_of_beq_eq_true h
    rw [run_sizeOf w hi]
    simp [Program.cellsOf, hi, this]
theorem Blk.at {w : World} {b : Nat} {t : TypeId} {cs : Array Value} (h : Blk w b t cs) {j : Nat} {u : Value} (hj : cs[j]? = some u) : w.cell? ⟨b, j, none⟩ = some u := (h.cells j).trans hj
theorem Blk.all {w : World} {b : Nat} {t : TypeId} {l : List Value} (h : Blk w b t l.toArray) : CellsAt w b 0 l := fun j u hj => by
  rw [Nat.zero_add]
  exact h.at (by simpa using hj)
theorem at_add' (b o j : Nat) : (⟨b, o, none⟩ : Addr).add j = ⟨b, o + j, none⟩ := by unfold Addr.add; split <;> simp_all

section
variable {P : Program} {s : Env} {C : World → Prop} {d : Option Nat} {ty : TypeId} {pos : String} {af : Array Edge} {gd : Option (Nat × Bool)}
theorem ev_fa {t f : Nat} {x : Operand} {b o o' : Nat} (hx : evE s x = some (.pointer (some ⟨b, o, none⟩))) (hr : ∀ b o w, (Instr.fieldAt t (.pointer (some ⟨b, o, none⟩)) f).run P w = .ok (.pointer (some ⟨b, o + o', none⟩)) w) : Ev P s C ⟨d, .fieldAddr t x f, ty, pos, af, gd⟩ (.pointer (some ⟨b, o + o', none⟩)) := fun ρ hρ w _ => by
  unfold execOp
  simp only [hρ x _ hx, Sem.run_bind, hr, Result.andThen_ok]
  rfl
theorem ev_fa0 {t f : Nat} {x : Operand} {b o : Nat} (hx : evE s x = some (.pointer (some ⟨b, o, none⟩))) (hr : ∀ b o w, (Instr.fieldAt t (.pointer (some ⟨b, o, none⟩)) f).run P w = .ok (.pointer (some ⟨b, o, none⟩)) w) : Ev P s C ⟨d, .fieldAddr t x f, ty, pos, af, gd⟩ (.pointer (some ⟨b, o, none⟩)) := fun ρ hρ w _ => by
  unfold execOp
  simp only [hρ x _ hx, Sem.run_bind, hr, Result.andThen_ok]
  rfl
theorem ev_idx {t e sz : Nat} {x i : Operand} {b o len cap : Nat} {k : Int} (hx : evE s x = some (.slice (some ⟨b, o, none⟩) len cap)) (hi : evE s i = some (.int .i64 k)) (hu : P.underlying t = some (.slice e)) (hs : sizeB P e sz = true) (h0 : 0 ≤ k) (h1 : k < len) : Ev P s C ⟨d, .indexAddr t x i, ty, pos, af, gd⟩ (.pointer (some ⟨b, o + k.toNat * sz, none⟩)) := fun ρ hρ w _ => by
  have he : P.elem t = e := by unfold Program.elem; rw [hu]
  unfold execOp
  simp only [hρ x _ hx, hρ i _ hi, Sem.run_bind]
  rw [run_indexAt_slice w t ⟨b, o, none⟩ len cap .i64 k (by rw [hu, he]), if_pos ⟨h0, h1⟩, he, sizeB_run hs w]
  simp only [Result.andThen_ok, at_add']
  rfl
theorem ev_load1 {t : TypeId} {x : Operand} {a : Addr} {v : Value} (hx : evE s x = some (.pointer (some a))) (hu : oneB P t = true) (hc : ∀ w, C w → w.cell? a = some v) : Ev P s C ⟨d, .load t x, ty, pos, af, gd⟩ v := fun ρ hρ w hw => by
  have h1 : (isAgg t).run P w = .ok false w := by
    unfold oneB at hu
    unfold isAgg
    cases hq : P.underlying t with
    | none => rw [hq] at hu; cases hu
    | some u => rw [hq] at hu; rw [Sem.run_bind, run_underlying hq]; cases u <;> first | rfl | (cases hu)
  unfold execOp
  simp only [hρ x _ hx, Instr.loadAt, Instr.sureAddr, loadVar, Sem.run_bind, Sem.run_pure, Result.andThen_ok, h1, Bool.false_eq_true, if_false, run_load, hc w hw]
theorem run_loadS {t : TypeId} {b o : Nat} {cs : List Value} {w : World} (hu : aggB P t cs.length = true) (hc : CellsAt w b o cs) : (loadVar t ⟨b, o, none⟩).run P w = .ok (.agg cs.toArray) w := by
  unfold aggB at hu
  rw [Bool.and_eq_true] at hu
  have h1 : (isAgg t).run P w = .ok true w := by
    have hu := hu.1
    unfold isAgg
    cases hq : P.underlying t with
    | none => rw [hq] at hu; cases hu
    | some u => rw [hq] at hu; rw [Sem.run_bind, run_underlying hq]; cases u <;> first | rfl | (cases hu)
  have h2 : (sizeOf t).run P w = .ok cs.length w := sizeB_run hu.2 w
  have h3 : (loadCells ⟨b, o, none⟩ cs.length).run P w = .ok cs.toArray w := run_loadCells_list w ⟨b, o, none⟩ cs fun j u hj => by rw [at_add']; exact hc j u hj
  simp only [loadVar, Sem.run_bind, Result.andThen_ok, h1, if_true, h2, h3]
  rfl
theorem ev_loadS {t : TypeId} {x : Operand} {b o : Nat} {cs : List Value} (hx : evE s x = some (.pointer (some ⟨b, o, none⟩))) (hc : ∀ w, C w → CellsAt w b o cs) (hu : aggB P t cs.length = true) : Ev P s C ⟨d, .load t x, ty, pos, af, gd⟩ (.agg cs.toArray) := fun ρ hρ w hw => by
  unfold execOp
  simp only [hρ x _ hx, Instr.loadAt, Instr.sureAddr, Sem.run_bind, Sem.run_pure, Result.andThen_ok, run_loadS hu (hc w hw)]
theorem run_builtin {ρ : Operand → Value} {b : Builtin} {xs : List Operand} {ats : Array TypeId} {vs : List Value} (hv : xs.map ρ = vs) (w : World) :
    (execOp ρ ⟨d, .call ⟨.builtin b, xs.toArray, ats⟩, ty, pos, af, gd⟩).run P w = (builtin b ats ty (xs.toArray.map fun | .const _ => true | _ => false) vs.toArray).run P w := by
  unfold execOp
  simp only [resolve, List.map_toArray, hv]
  rfl
theorem ev_len {t e : TypeId} {x : Operand} {A : Option Addr} {len cap : Nat} (hx : evE s x = some (.slice A len cap)) (hu : P.underlying t = some (.slice e)) : Ev P s C ⟨d, .call ⟨.builtin .len, #[x], #[t]⟩, ty, pos, af, gd⟩ (.int .i64 len) := fun ρ hρ w _ => by
  have := run_builtin (P := P) (d := d) (ty := ty) (pos := pos) (af := af) (gd := gd) (ρ := ρ) (b := .len) (xs := [x]) (ats := #[t]) (vs := [.slice A len cap]) (by simp [hρ x _ hx]) w
  rw [this]
  simp [builtin, Builtin.len_, run_underlying hu, goInt]
theorem ev_lenS {t : TypeId} {x : Operand} {b : ByteArray} (hx : evE s x = some (.string b)) (hu : P.underlying t = some .string) : Ev P s C ⟨d, .call ⟨.builtin .len, #[x], #[t]⟩, ty, pos, af, gd⟩ (.int .i64 b.size) := fun ρ hρ w _ => by
  have := run_builtin (P := P) (d := d) (ty := ty) (pos := pos) (af := af) (gd := gd) (ρ := ρ) (b := .len) (xs := [x]) (ats := #[t]) (vs := [.string b]) (by simp [hρ x _ hx]) w
  rw [this]
  simp [builtin, Builtin.len_, run_underlying hu, goInt]
theorem ev_strne {t u : TypeId} {x y : Operand} {a b : ByteArray} (hx : evE s x = some (.string a)) (hy : evE s y = some (.string b)) : Ev P s C ⟨d, .binOp .neq t x y u, ty, pos, af, gd⟩ (.bool (!(a.toList == b.toList))) :=
  ev_bin hx hy fun w => by
    rw [Sem.run_bind]
    show (Op.stringOp .neq a b).run P w = _
    rfl
end

section
variable {P : Program} {n : Nat} {ops : Array Oper} {K : Cont} {s : Env} {w : World} {rest : List Oper} {d : Nat} {ty : TypeId} {pos : String} {af : Array Edge} {gd : Option (Nat × Bool)}
end
section
variable {P : Program} {s : Env} {C : World → Prop} {d : Option Nat} {ty : TypeId} {pos : String} {af : Array Edge} {gd : Option (Nat × Bool)}
def evp (s : Env) : List (Nat × Operand) → Option (List (Nat × Value))
  | [] => some []
  | (i, x) :: r => match evE s x, evp s r with
    | some v, some l => some ((i, v) :: l)
    | _, _ => none
theorem evp_map {s : Env} {ρ : Operand → Value} (h : ∀ x u, evE s x = some u → ρ x = u) : ∀ {l : List (Nat × Operand)} {vs : List (Nat × Value)}, evp s l = some vs → l.map (fun (i, x) => (i, ρ x)) = vs
  | [], vs, e => by simp [evp] at e; simp [e]
  | (i, x) :: r, vs, e => by
    unfold evp at e
    cases hx : evE s x with
    | none => rw [hx] at e; cases e
    | some v =>
      cases hr : evp s r with
      | none => rw [hx, hr] at e; cases e
      | some l =>
        rw [hx, hr] at e
        simp only [Option.some.injEq] at e
        show (i, ρ x) :: r.map (fun (i, x) => (i, ρ x)) = vs
        rw [h x v hx, evp_map h hr, e]
theorem ev_build {t : TypeId} {ps : List (Nat × Operand)} {vs : List (Nat × Value)} {v : Value} (hp : evp s ps = some vs) (hr : ∀ w, (Instr.build t vs.toArray).run P w = .ok v w) : Ev P s C ⟨d, .build t ps.toArray, ty, pos, af, gd⟩ v := fun ρ hρ w _ => by
  unfold execOp
  simp only [List.map_toArray, evp_map hρ hp, Sem.run_bind, hr, Result.andThen_ok]
  rfl
end
section
variable {P : Program} {n : Nat} {ops : Array Oper} {K : Cont} {s : Env} {w : World} {rest : List Oper} {d : Nat} {ty : TypeId} {pos : String} {af : Array Edge} {gd : Option (Nat × Bool)}
end
end Go.Proofs.Ytmbaennilhdieaa
