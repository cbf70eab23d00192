/- The walk by small steps: memory. Over any program. -/
import Derived.Test.YtmbaennilhdieaaEng
namespace Go.Proofs.Ytmbaennilhdieaa
open Go.RowKit

/-- from cell o of block b on lie these cells -/
def CellsAt (w : World) (b o : Nat) (l : List Value) : Prop := ∀ j u, l[j]? = some u → w.cell? ⟨b, o + j, none⟩ = some u
def oneB (P : Program) (t : TypeId) : Bool := match P.underlying t with | some (.struct _) | some (.array _ _) | none => false | _ => true
def aggB (P : Program) (t : TypeId) (sz : Nat) : Bool := (match P.underlying t with | some (.struct _) | some (.array _ _) => true | _ => false) && (match P.info? t with | some i => Nat.beq i.size sz | none => false)
def sizeB (P : Program) (t : TypeId) (sz : Nat) : Bool := match P.info? t with | some i => Nat.beq i.size sz | none => false
theorem here {w : World} {p : World → Prop} (h : p w) : ∀ w', w' = w → p w' := fun _ e => e ▸ h
theorem sizeB_run {P : Program} {t : TypeId} {sz : Nat} (h : sizeB P t sz = true) (w : World) : (sizeOf t).run P w = .ok sz w := by
  unfold sizeB at h
  cases hi : P.info? t with
  | none => rw [hi] at h; cases h
  | some i =>
    rw [hi] at h
    have := Nat.eq_of_beq_eq_true h
    rw [run_sizeOf w hi]
    simp [Program.cellsOf, hi, this]
theorem CellsAt.cell {w : World} {b o : Nat} {l : List Value} (h : CellsAt w b o l) {j : Nat} {u : Value} (hj : l[j]? = some u) : w.cell? ⟨b, o + j, none⟩ = some u := h j u hj
theorem Blk.at {w : World} {b : Nat} {t : TypeId} {cs : Array Value} (h : Blk w b t cs) {j : Nat} {u : Value} (hj : cs[j]? = some u) : w.cell? ⟨b, j, none⟩ = some u := (h.cells j).trans hj
theorem Blk.all {w : World} {b : Nat} {t : TypeId} {l : List Value} (h : Blk w b t l.toArray) : CellsAt w b 0 l := fun j u hj => by
  rw [Nat.zero_add]
  exact h.at (by simpa using hj)
theorem CellsAt.ext {w w' : World} {b o : Nat} {l : List Value} (h : CellsAt w b o l) (hb : b < w.heap.size) (hx : Ext w w') : CellsAt w' b o l := fun j u hj => (hx.cell (p := ⟨b, o + j, none⟩) hb).trans (h j u hj)
theorem at_add' (b o j : Nat) : (⟨b, o, none⟩ : Addr).add j = ⟨b, o + j, none⟩ := by unfold Addr.add; split <;> simp_all

section
variable {P : Program} {s : Env} {C : World → Prop} {d : Option Nat} {ty : TypeId} {pos : String} {af : Array Edge} {gd : Option (Nat × Bool)}
theorem ev_fa {t f : Nat} {x : Operand} {b o o' : Nat} (hx : evE s x = some (.pointer (some ⟨b, o, none⟩))) (hr : ∀ b o w, (Instr.fieldAt t (.pointer (some ⟨b, o, none⟩)) f).run P w = .ok (.pointer (some ⟨b, o + o', none⟩)) w) : Ev P s C ⟨d, .fieldAddr t x f, ty, pos, af, gd⟩ (.pointer (some ⟨b, o + o', none⟩)) := fun ρ hρ w _ => by
  unfold execOp
  simp only [hρ x _ hx, Sem.run_bind, hr, Result.andThen_ok]
  rfl
theorem ev_fa0 {t f : Nat} {x : Operand} {b o : Nat} (hx : evE s x = some (.pointer (some ⟨b, o, none⟩))) (hr : ∀ b o w, (Instr.fieldAt t (.pointer (some ⟨b, o, none⟩)) f).run P w = .ok (.pointer (some ⟨b, o, none⟩)) w) : Ev P s C ⟨d, .fieldAddr t x f, ty, pos, af, gd⟩ (.pointer (some ⟨b, o, none⟩)) := fun ρ hρ w _ => by
  unfold execOp
  simp only [hρ x _ hx, Sem.run_bind, hr, Result.andThen_ok]
  rfl
theorem ev_idx {t e sz : Nat} {x i : Operand} {b o len cap : Nat} {k : Int} (hx : evE s x = some (.slice (some ⟨b, o, none⟩) len cap)) (hi : evE s i = some (.int .i64 k)) (hu : P.underlying t = some (.slice e)) (hs : sizeB P e sz = true) (h0 : 0 ≤ k) (h1 : k < len) : Ev P s C ⟨d, .indexAddr t x i, ty, pos, af, gd⟩ (.pointer (some ⟨b, o + k.toNat * sz, none⟩)) := fun ρ hρ w _ => by
  have he : P.elem t = e := by unfold Program.elem; rw [hu]
  unfold execOp
  simp only [hρ x _ hx, hρ i _ hi, Sem.run_bind]
  rw [run_indexAt_slice w t ⟨b, o, none⟩ len cap .i64 k (by rw [hu, he]), if_pos ⟨h0, h1⟩, he, sizeB_run hs w]
  simp only [Result.andThen_ok, at_add']
  rfl
theorem ev_load1 {t : TypeId} {x : Operand} {a : Addr} {v : Value} (hx : evE s x = some (.pointer (some a))) (hu : oneB P t = true) (hc : ∀ w, C w → w.cell? a = some v) : Ev P s C ⟨d, .load t x, ty, pos, af, gd⟩ v := fun ρ hρ w hw => by
  have h1 : (isAgg t).run P w = .ok false w := by
    unfold oneB at hu
    unfold isAgg
    cases hq : P.underlying t with
    | none => rw [hq] at hu; cases hu
    | some u => rw [hq] at hu; rw [Sem.run_bind, run_underlying hq]; cases u <;> first | rfl | (cases hu)
  unfold execOp
  simp only [hρ x _ hx, Instr.loadAt, Instr.sureAddr, loadVar, Sem.run_bind, Sem.run_pure, Result.andThen_ok, h1, Bool.false_eq_true, if_false, run_load, hc w hw]
theorem run_loadS {t : TypeId} {b o : Nat} {cs : List Value} {w : World} (hu : aggB P t cs.length = true) (hc : CellsAt w b o cs) : (loadVar t ⟨b, o, none⟩).run P w = .ok (.agg cs.toArray) w := by
  unfold aggB at hu
  rw [Bool.and_eq_true] at hu
  have h1 : (isAgg t).run P w = .ok true w := by
    have hu := hu.1
    unfold isAgg
    cases hq : P.underlying t with
    | none => rw [hq] at hu; cases hu
    | some u => rw [hq] at hu; rw [Sem.run_bind, run_underlying hq]; cases u <;> first | rfl | (cases hu)
  have h2 : (sizeOf t).run P w = .ok cs.length w := sizeB_run hu.2 w
  have h3 : (loadCells ⟨b, o, none⟩ cs.length).run P w = .ok cs.toArray w := run_loadCells_list w ⟨b, o, none⟩ cs fun j u hj => by rw [at_add']; exact hc j u hj
  simp only [loadVar, Sem.run_bind, Result.andThen_ok, h1, if_true, h2, h3]
  rfl
theorem ev_loadS {t : TypeId} {x : Operand} {b o : Nat} {cs : List Value} (hx : evE s x = some (.pointer (some ⟨b, o, none⟩))) (hc : ∀ w, C w → CellsAt w b o cs) (hu : aggB P t cs.length = true) : Ev P s C ⟨d, .load t x, ty, pos, af, gd⟩ (.agg cs.toArray) := fun ρ hρ w hw => by
  unfold execOp
  simp only [hρ x _ hx, Instr.loadAt, Instr.sureAddr, Sem.run_bind, Sem.run_pure, Result.andThen_ok, run_loadS hu (hc w hw)]
theorem run_builtin {ρ : Operand → Value} {b : Builtin} {xs : List Operand} {ats : Array TypeId} {vs : List Value} (hv : xs.map ρ = vs) (w : World) :
    (execOp ρ ⟨d, .call ⟨.builtin b, xs.toArray, ats⟩, ty, pos, af, gd⟩).run P w = (builtin b ats ty (xs.toArray.map fun | .const _ => true | _ => false) vs.toArray).run P w := by
  unfold execOp
  simp only [resolve, List.map_toArray, hv]
  rfl
theorem ev_len {t e : TypeId} {x : Operand} {A : Option Addr} {len cap : Nat} (hx : evE s x = some (.slice A len cap)) (hu : P.underlying t = some (.slice e)) : Ev P s C ⟨d, .call ⟨.builtin .len, #[x], #[t]⟩, ty, pos, af, gd⟩ (.int .i64 len) := fun ρ hρ w _ => by
  have := run_builtin (P := P) (d := d) (ty := ty) (pos := pos) (af := af) (gd := gd) (ρ := ρ) (b := .len) (xs := [x]) (ats := #[t]) (vs := [.slice A len cap]) (by simp [hρ x _ hx]) w
  rw [this]
  simp [builtin, Builtin.len_, run_underlying hu, goInt]
theorem ev_lenS {t : TypeId} {x : Operand} {b : ByteArray} (hx : evE s x = some (.string b)) (hu : P.underlying t = some .string) : Ev P s C ⟨d, .call ⟨.builtin .len, #[x], #[t]⟩, ty, pos, af, gd⟩ (.int .i64 b.size) := fun ρ hρ w _ => by
  have := run_builtin (P := P) (d := d) (ty := ty) (pos := pos) (af := af) (gd := gd) (ρ := ρ) (b := .len) (xs := [x]) (ats := #[t]) (vs := [.string b]) (by simp [hρ x _ hx]) w
  rw [this]
  simp [builtin, Builtin.len_, run_underlying hu, goInt]
theorem ev_field {t f : Nat} {x : Operand} {cs : Array Value} {v : Value} (hx : evE s x = some (.agg cs)) (hr : ∀ w, (Instr.field t (.agg cs) f).run P w = .ok v w) : Ev P s C ⟨d, .field t x f, ty, pos, af, gd⟩ v := fun ρ hρ w _ => by
  unfold execOp
  simp only [hρ x _ hx, Sem.run_bind, hr, Result.andThen_ok]
  rfl
theorem ev_conv {t u : TypeId} {k k' : IntKind} {x : Operand} {z : Int} (hx : evE s x = some (.int k z)) (ht : (P.underlying t).isSome = true) (hu : P.underlying u = some (.int k')) (hz : k'.wrap z = z) : Ev P s C ⟨d, .convert t u x, ty, pos, af, gd⟩ (.int k' z) := fun ρ hρ w _ => by
  obtain ⟨q, hq⟩ := Option.isSome_iff_exists.1 ht
  unfold execOp
  simp only [hρ x _ hx, convert, Sem.run_bind, run_underlying hq, run_underlying hu, Result.andThen_ok]
  cases q <;> simp [Conv.intToInt, hz]
/-- a pointer against nil -/
theorem ev_nil_eq {t u : TypeId} {x : Operand} {e : TypeId} {p : Option Addr} (hx : evE s x = some (.pointer p)) (hu : P.underlying t = some (.pointer e)) : Ev P s C ⟨d, .binOp .eql t x (.const (.pointer none)) u, ty, pos, af, gd⟩ (.bool p.isNone) :=
  ev_bin hx rfl fun w => by
    rw [Sem.run_bind]
    show (binOp .eql t (.pointer p) (.pointer none)).run P w = _
    rw [run_eql_pointer_nil w t p (by rw [hu, show P.pointee t = e by unfold Program.pointee; rw [hu]])]
theorem ev_nil_ne {t u : TypeId} {x : Operand} {e : TypeId} {p : Option Addr} (hx : evE s x = some (.pointer p)) (hu : P.underlying t = some (.pointer e)) : Ev P s C ⟨d, .binOp .neq t x (.const (.pointer none)) u, ty, pos, af, gd⟩ (.bool p.isSome) :=
  ev_bin hx rfl fun w => by
    rw [Sem.run_bind]
    show (binOp .neq t (.pointer p) (.pointer none)).run P w = _
    rw [run_neq_pointer_nil w t p (by rw [hu, show P.pointee t = e by unfold Program.pointee; rw [hu]])]
    cases p <;> rfl
theorem ev_streq {t u : TypeId} {x y : Operand} {a b : ByteArray} (hx : evE s x = some (.string a)) (hy : evE s y = some (.string b)) : Ev P s C ⟨d, .binOp .eql t x y u, ty, pos, af, gd⟩ (.bool (a.toList == b.toList)) :=
  ev_bin hx hy fun w => by
    rw [Sem.run_bind]
    show (Op.stringOp .eql a b).run P w = _
    rfl
theorem ev_strne {t u : TypeId} {x y : Operand} {a b : ByteArray} (hx : evE s x = some (.string a)) (hy : evE s y = some (.string b)) : Ev P s C ⟨d, .binOp .neq t x y u, ty, pos, af, gd⟩ (.bool (!(a.toList == b.toList))) :=
  ev_bin hx hy fun w => by
    rw [Sem.run_bind]
    show (Op.stringOp .neq a b).run P w = _
    rfl
theorem ev_and {t u : TypeId} {x y : Operand} {k : IntKind} {a b : Int} (hx : evE s x = some (.int k a)) (hy : evE s y = some (.int k b)) : Ev P s C ⟨d, .binOp .and t x y u, ty, pos, af, gd⟩ (.int k (bits .and k a b)) :=
  ev_bin hx hy fun w => by cases k <;> rfl
end

section
variable {P : Program} {n : Nat} {ops : Array Oper} {K : Cont} {s : Env} {w : World} {rest : List Oper} {d : Nat} {ty : TypeId} {pos : String} {af : Array Edge} {gd : Option (Nat × Bool)}
theorem R_box {t : TypeId} {x : Operand} {v : Value} (hx : evE s x = some v) (hg : guardE ops s ⟨some d, .box t x, ty, pos, af, gd⟩ = some true) (hd : Nat.ble (d + 1) n = true) (k : RunE P n ops rest K ((d, .pointer (some ⟨w.heap.size, 0, none⟩)) :: s) (w.alloc (.cells v.cells t))) : RunE P n ops (⟨some d, .box t x, ty, pos, af, gd⟩ :: rest) K s w :=
  R_do (fun ρ hρ => by unfold execOp; simp only [hρ x _ hx]; rfl) hg hd k
theorem R_alloc {t : TypeId} {v : Value} (hz : ∀ w, (zeroValue t).run P w = .ok v w) (hg : guardE ops s ⟨some d, .alloc t, ty, pos, af, gd⟩ = some true) (hd : Nat.ble (d + 1) n = true) (k : RunE P n ops rest K ((d, .pointer (some ⟨w.heap.size, 0, none⟩)) :: s) (w.alloc (.cells v.cells t))) : RunE P n ops (⟨some d, .alloc t, ty, pos, af, gd⟩ :: rest) K s w :=
  R_do (fun ρ _ => by unfold execOp; simp only [Instr.alloc, Sem.run_bind, hz, Result.andThen_ok]; rfl) hg hd k
theorem R_storeRow {t : TypeId} {x y : Operand} {b : Nat} {cs : List Value} {old : Array Value} {bt : TypeId} (hx : evE s x = some (.pointer (some ⟨b, 0, none⟩))) (hy : evE s y = some (.agg cs.toArray)) (hb : Blk w b bt old) (hu : sizeB P t cs.length = true) (ho : old.size = cs.length) (h1 : cs.all (·.oneCell') = true)
    (hg : guardE ops s ⟨none, .store t x y, ty, pos, af, gd⟩ = some true) (k : RunE P n ops rest K s (w.setRow b cs.toArray)) : RunE P n ops (⟨none, .store t x y, ty, pos, af, gd⟩ :: rest) K s w :=
  R_unit (fun ρ hρ => by
    have hi : (P.info? t).map (·.size) = some cs.toArray.size := by
      unfold sizeB at hu
      cases hi : P.info? t with
      | none => rw [hi] at hu; cases hu
      | some i => rw [hi] at hu; simp [Nat.eq_of_beq_eq_true hu]
    unfold execOp
    simp only [hρ x _ hx, hρ y _ hy, Instr.storeAt, Instr.sureAddr, Sem.run_bind, Sem.run_pure, Result.andThen_ok]
    rw [run_storeVar_row w b bt t old cs.toArray hb hi (by simpa using ho) (by simpa using h1)]
    rfl) hg k
theorem R_case (d : Nat) {g : Bool} {l : List Oper} (hl : look s d = some (.bool g)) (h1 : g = true → RunE P n ops l K s w) (h2 : g = false → RunE P n ops l K s w) : RunE P n ops l K s w := by
  cases g with
  | true => exact h1 rfl
  | false => exact h2 rfl
end
section
variable {P : Program} {s : Env} {C : World → Prop} {d : Option Nat} {ty : TypeId} {pos : String} {af : Array Edge} {gd : Option (Nat × Bool)}
def evp (s : Env) : List (Nat × Operand) → Option (List (Nat × Value))
  | [] => some []
  | (i, x) :: r => match evE s x, evp s r with
    | some v, some l => some ((i, v) :: l)
    | _, _ => none
theorem evp_map {s : Env} {ρ : Operand → Value} (h : ∀ x u, evE s x = some u → ρ x = u) : ∀ {l : List (Nat × Operand)} {vs : List (Nat × Value)}, evp s l = some vs → l.map (fun (i, x) => (i, ρ x)) = vs
  | [], vs, e => by simp [evp] at e; simp [e]
  | (i, x) :: r, vs, e => by
    unfold evp at e
    cases hx : evE s x with
    | none => rw [hx] at e; cases e
    | some v =>
      cases hr : evp s r with
      | none => rw [hx, hr] at e; cases e
      | some l =>
        rw [hx, hr] at e
        simp only [Option.some.injEq] at e
        show (i, ρ x) :: r.map (fun (i, x) => (i, ρ x)) = vs
        rw [h x v hx, evp_map h hr, e]
theorem ev_build {t : TypeId} {ps : List (Nat × Operand)} {vs : List (Nat × Value)} {v : Value} (hp : evp s ps = some vs) (hr : ∀ w, (Instr.build t vs.toArray).run P w = .ok v w) : Ev P s C ⟨d, .build t ps.toArray, ty, pos, af, gd⟩ v := fun ρ hρ w _ => by
  unfold execOp
  simp only [List.map_toArray, evp_map hρ hp, Sem.run_bind, hr, Result.andThen_ok]
  rfl
end
section
variable {P : Program} {n : Nat} {ops : Array Oper} {K : Cont} {s : Env} {w : World} {rest : List Oper} {d : Nat} {ty : TypeId} {pos : String} {af : Array Edge} {gd : Option (Nat × Bool)}
theorem R_bslice {t : TypeId} {m : Nat} {ps : List (Nat × Operand)} {vs : List (Nat × Value)} {v : Value} {w' : World} (hp : evp s ps = some vs) (hr : (Instr.buildSlice t m vs.toArray).run P w = .ok v w') (hg : guardE ops s ⟨some d, .buildSlice t m ps.toArray, ty, pos, af, gd⟩ = some true) (hd : Nat.ble (d + 1) n = true) (k : RunE P n ops rest K ((d, v) :: s) w') : RunE P n ops (⟨some d, .buildSlice t m ps.toArray, ty, pos, af, gd⟩ :: rest) K s w :=
  R_do (fun ρ hρ => by unfold execOp; simp only [List.map_toArray, evp_map hρ hp, Sem.run_bind, hr, Result.andThen_ok]; rfl) hg hd k
end
end Go.Proofs.Ytmbaennilhdieaa
