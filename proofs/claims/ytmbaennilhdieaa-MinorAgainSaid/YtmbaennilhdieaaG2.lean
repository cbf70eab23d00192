/- Merged texts: part 2. No conditions of their own. -/
import Derived.Test.YtmbaennilhdieaaG1
import Derived.Lib.AppendZeros
import Derived.LoopNIn
import Derived.Shelf.Small.Bits
import Derived.Shelf.Small.Wraps
import Derived.Shelf.Strconv.Itoa0
import Derived.Shelf.Sort.Plain
import Derived.Shelf.Slices.Turned
import Derived.Ground.Names2Prog
import Derived.Shelf.Slices.SearchI
import Derived.Shelf.Slices.In.SortNone
import Derived.Test.YtmbaennilhdieaaProg
import Derived.Lib.OwnBridge
namespace Go.Proofs.Ytmbaennilhdieaa
open Go.RowKit
def oW {ρ : Type} (e : Option Exit) (n r : Option ρ) (x : Nat → Option ρ) : Option ρ := match e with
 | none => n
 | some .ret => r
 | some (.exit i) => x i
 | some _ => none
theorem jO {K : K3} {e : Exit} {s : bu} {L' : List Chunk} (L : List Chunk) (h : L' = L) (k : K e s L) : K e s L' := h ▸ k
theorem xD {X : Cx} {K K' : K3} {s : bu} {L : List Chunk} {c : Code} (h : Wq X c K' s L) (hk : ∀ e s L, K' e s L → ∃ (ι : Type) (Q : ι → List Chunk), L = [ec Q] ∧ ∀ x, K e s (Q x)) : Wq X c K s L := fun H Ds a w ha hd hw => wpIn_mono (h H Ds a w ha hd hw) fun e a' w' ⟨s', L', Ds', h1, h2, h3, h4⟩ => by
 obtain ⟨ι, Q, rfl, h5⟩ := hk _ _ _ h4
 obtain ⟨x, hx⟩ := fL h3
 exact ⟨s', Q x, Ds', h1, h2, by simpa using hx, h5 x⟩
theorem o0 {α σ ι ρ : Type} {X : Cx} {K : K3} {s : bu} {g : Operand} {ps : List Nat} {assign body : Code} {gf : FuncId} {caps : Array Value} {en : α → List Value} (φ : α → σ → Option (Option Exit × σ)) (Q : σ → ι → List Chunk) (pre : List Chunk) (σ₀ : σ) (x₀ : ι) {je : Option Exit} {σr : σ} {L : List Chunk} {id : Nat} {vn vr : Option ρ} {vx : Nat → Option ρ} {v : ρ}
  (hr : X.r = none) (hg : bC s g = some (.func (.func gf) #[] caps)) (hf : au X.P gf) (hps : ps.all (fun p => Nat.ble (p + 1) X.n) = true) (hen : ∀ x, (en x).length = ps.length)
  (hit : ∀ l (G : (Option Exit × σ) → List Chunk), lg X.P l G en (cm φ) → Okc X.P gf (.func (.yield l) #[] #[] :: caps.toList) (pre ++ G (none, σ₀)) fun _ post => post = G (je, σr))
  (hL : Cv L (pre ++ Q σ₀ x₀)) (h : oW je vn vr vx = some v)
  (hbody : ∀ l x σ₁ je' σ₂ z, φ x σ₁ = some (je', σ₂) → Wq ⟨X.P, X.n, some l⟩ assign (nx (fun s1 L1 => Wq ⟨X.P, X.n, some l⟩ body (RK je' [ec (Q σ₂)]) s1 L1) fun _ _ _ => False) (qn ps (en x) s) (Q σ₁ z))
  (hn : ∀ z, vn = some v → bk id K .normal s (Q σr z)) (hret : ∀ z, vr = some v → bk id K .ret s (Q σr z)) (hx : ∀ i z, vx i = some v → bk id K (.exit i) s (Q σr z)) :
  Wq X (.block id (.rangeFunc g ps.toArray assign body)) K s L := by
 refine ep (xD (K' := fun e s' L' => s' = s ∧ L' = [ec (Q σr)] ∧ ∀ z, bk id K e s (Q σr z)) ?_ ?_)
 ·refine BA φ (fun q => [ec (Q q)]) pre σ₀ hr hg hf hps hen hit ?_ ?_ ?_ ?_
  ·exact hL.trans (js pre (dq x₀ rfl))
  ·intro l x σ₁ je' σ₂ hφ
   exact Ah fun z => hbody l x σ₁ je' σ₂ z hφ
  ·intro hj
   rw [hj] at h
   exact ⟨rfl, rfl, fun z => hn z h⟩
  intro e he
  rw [he] at h
  cases e with
  | ret => exact ⟨rfl, rfl, rfl, fun z => hret z h⟩
  | exit i => exact ⟨rfl, rfl, rfl, fun z => hx i z h⟩
  | _ => cases h
 rintro e s' L' ⟨rfl, rfl, h3⟩
 exact ⟨ι, Q σr, rfl, h3⟩
theorem wF {L L' : List Chunk} {s : bu} (h : Cv L L') : RK (some .ret) L' .ret s L := ⟨.inr ⟨rfl, rfl⟩, h⟩
theorem sb {L L' : List Chunk} {s : bu} (h : Cv L L') : RK none L' .normal s L := ⟨.inl ⟨rfl, rfl⟩, h⟩
def uv (P : Program) (L : List Chunk) (s : bu) (r : ResultVar) (v : Value) : Prop := match r with
 | .tmp t => eb s t = some v
 | .cell t ty => ∃ b, eb s t = some (.pointer (some ⟨b, 0, none⟩)) ∧ ∀ Z w, Sp Z L w → (loadVar ty ⟨b, 0, none⟩).run P w = .ok v w
def DI : List Value → Value
 | [v] => v
 | vs => .tuple vs.toArray
def qQ (tm : Array Value) (r : ResultVar) : Sem Value := match r with
 | .tmp t => pure (tm.getD t undef)
 | .cell a t => do loadVar t (← asAddr (tm.getD a undef))
theorem vM (fn : Func) (tm : Array Value) : results fn tm = (do let vs ← fn.results.mapM (qQ tm); pure (if h : vs.size = 1 then vs[0] else .tuple vs)) := rfl
theorem pK {X : Cx} {s : bu} {a : Act} (ha : Fx X s a) {L Z : List Chunk} {w : World} (hw : Sp Z L w) : ∀ {rs : List ResultVar} {vs : List Value}, All2 (uv X.P L s) rs vs → (rs.mapM (qQ a.tmps)).run X.P w = .ok vs w
 | _, _, .nil => by simp
 | r :: rs, _, .cons (b := vr) h1 h2 => by
  have ih := pK ha hw h2
  have h3 : (qQ a.tmps r).run X.P w = .ok vr w := by
   cases r with
   | tmp t =>
    have e := ha.at_ t _ h1
    unfold qQ
    simp only [Sem.run_pure, e]
   | cell t ty =>
    obtain ⟨b, e1, e2⟩ := h1
    have e := ha.at_ t _ e1
    unfold qQ
    simp only [e, asAddr, Sem.run_bind, Sem.run_pure, Result.andThen_ok, e2 _ _ hw]
  rw [List.mapM_cons, Sem.run_bind, h3, Result.andThen_ok, Sem.run_bind, ih, Result.andThen_ok, Sem.run_pure]
theorem eX {X : Cx} {fn : Func} {R : Value → List Chunk → Prop} {s : bu} {L L2 : List Chunk} {rs : List ResultVar} {vs : List Value} {v : Value} (hr : fn.results = rs.toArray) (h : All2 (uv X.P L s) rs vs) (hv : DI vs = v) (hc : Cv L L2) (hR : R v L2) : wI X fn R .ret s L := fun a ha => ⟨v, L2, fun Z w hw => by
 have h1 := pK ha hw h
 rw [vM, hr, Sem.run_bind]
 simp only [List.mapM_toArray]
 have h2 : (List.toArray <$> rs.mapM (qQ a.tmps)).run X.P w = .ok vs.toArray w := by
  show ((rs.mapM (qQ a.tmps)) >>= fun l => pure l.toArray).run X.P w = _
  rw [Sem.run_bind, h1, Result.andThen_ok, Sem.run_pure]
 rw [h2, Result.andThen_ok, Sem.run_pure]
 subst hv
 match vs with
 | [] => rfl
 | [v] => rfl
 | _ :: _ :: _ => simp [DI], hc, hR⟩
theorem i9 {P : Program} {L : List Chunk} {s : bu} {t : Nat} {v : Value} (h : eb s t = some v) : uv P L s (.tmp t) v := h
theorem dD {P : Program} {L : List Chunk} {s : bu} {t ty bt b : Nat} {cs : List Value} (i : Nat) (hi : L[i]? = some (aq b bt cs)) (hl : eb s t = some (.pointer (some ⟨b, 0, none⟩))) (hu : pD P ty cs.length = true) : uv P L s (.cell t ty) (.agg cs.toArray) := ⟨b, hl, fun Z w hw => by
 obtain ⟨T, S, -, h⟩ := hw.get (bA hi)
 exact si hu h.all⟩
theorem xM {P : Program} {t : TypeId} {a : Addr} {v : Value} {w : World} (hu : gZ P t = true) (hc : w.cell? a = some v) : (loadVar t a).run P w = .ok v w := by
 have h1 : (isAgg t).run P w = .ok false w := by
  unfold gZ at hu
  unfold isAgg
  cases hq : P.underlying t with
  | none => rw [hq] at hu; cases hu
  | some u => rw [hq] at hu; rw [Sem.run_bind, run_underlying hq]; cases u <;> first | rfl | (cases hu)
 simp only [loadVar, Sem.run_bind, Sem.run_pure, Result.andThen_ok, h1, Bool.false_eq_true, if_false, run_load, hc]
theorem mD {P : Program} {L : List Chunk} {s : bu} {t ty bt b : Nat} {v : Value} (i : Nat) (hi : L[i]? = some (aq b bt [v])) (hl : eb s t = some (.pointer (some ⟨b, 0, none⟩))) (hu : gZ P ty = true) : uv P L s (.cell t ty) v := ⟨b, hl, fun Z w hw => by
 obtain ⟨T, S, -, h⟩ := hw.get (bA hi)
 exact xM hu (h.at (by simp))⟩
section
variable {P : Program} {s : bu} {L : List Chunk} {d : Option Nat} {ty : TypeId} {pos : String} {af : Array Edge} {gd : Option (Nat × Bool)}
theorem nl {sz : Nat} : ∀ {vss : List (List Value)}, (∀ r ∈ vss, r.length = sz) → ∀ {k : Nat} {r : List Value}, vss[k]? = some r → ∀ r' : List Value, vss.flatten = vss.flatten.take (k * sz) ++ r ++ vss.flatten.drop (k * sz + sz) ∧ (vss.set k r').flatten = vss.flatten.take (k * sz) ++ r' ++ vss.flatten.drop (k * sz + sz)
 | [], _, k, r, h, _ => by simp at h
 | a :: l, hl, 0, r, h, r' => by
  simp only [List.getElem?_cons_zero, Option.some.injEq] at h
  subst h
  have e := hl a (by simp)
  simp [← e]
 | a :: l, hl, k + 1, r, h, r' => by
  simp only [List.getElem?_cons_succ] at h
  obtain ⟨h1, h2⟩ := nl (fun x hx => hl x (by simp [hx])) h r'
  have e := hl a (by simp)
  have e1 : (k + 1) * sz = a.length + k * sz := by rw [e, Nat.add_mul]; omega
  have e2 : ∀ m : Nat, (a ++ l.flatten).take (a.length + m) = a ++ l.flatten.take m := fun m => by rw [List.take_append, List.take_of_length_le (by omega), Nat.add_sub_cancel_left]
  have e3 : ∀ m : Nat, (a ++ l.flatten).drop (a.length + m) = l.flatten.drop m := fun m => by rw [List.drop_append, List.drop_eq_nil_of_le (by omega), Nat.add_sub_cancel_left, List.nil_append]
  rw [List.set_cons_succ, List.flatten_cons, List.flatten_cons, e1, h2, Nat.add_assoc, e2, e3]
  refine ⟨?_, by simp only [List.append_assoc]⟩
  conv => lhs; rw [h1]
  simp only [List.append_assoc]
theorem yF {α : Type} {R : Rep α} {S : Nat → Prop} {w : World} {vss : List (List Value)} {xs : List α} (h : All2 (R.rel S w) vss xs) : ∀ r ∈ vss, r.length = R.sz := by
 induction h with
 | nil => intro r hr; cases hr
 | cons h1 _ ih =>
  intro r hr
  rcases List.mem_cons.1 hr with rfl | hr
  ·exact R.len h1
  exact ih r hr
theorem Ce (cs us : List Value) (o : Nat) (h : o + us.length ≤ cs.length) : (ow cs.toArray o us).toList = cs.take o ++ us ++ cs.drop (o + us.length) := by
 rcases wS cs us o with h1 | h1
 ·rw [h1]
 omega
theorem su {α : Type} {R : Rep α} {e : TypeId} {t : TypeId} {x y : Operand} {v u : Value} {us : List Value} {xs : List α} {k off : Nat} {z : α} (i : Nat) (hi : L[i]? = some (gj R e v xs)) (hx : bC s x = some (bK v k R.sz off)) (hy : bC s y = some u) (hv : u.cells.toList = us) (hs : dV P t us.length = true) (h1 : us.all (·.oneCell') = true) (hk : k < xs.length) (hle : Nat.ble (off + us.length) R.sz = true)
  (hrel : ∀ S w vs xk, xs[k]? = some xk → R.rel S w vs xk → Ro L S w → R.rel S w (vs.take off ++ us ++ vs.drop (off + us.length)) z) : OpX P s L ⟨d, .store t x y, ty, pos, af, gd⟩ fun _ L' => L' = L.set i (gj R e v (xs.set k z)) := fun ρ hρ Z w hw => by
 obtain ⟨T, S, hT⟩ := hw
 obtain ⟨vss, g1, g2⟩ := hT.ok (bA hi)
 have hle := Nat.le_of_ble_eq_true hle
 rcases g2 with ⟨g2, g3⟩ | ⟨h0, -⟩
 rotate_left
 ·omega
 rcases g2.2 with ⟨rfl, h0⟩ | ⟨g, cap, cur, rfl, q1, q2, q3, q4, q5, q6⟩
 ·omega
 obtain ⟨xk, hxk⟩ : ∃ xk, xs[k]? = some xk := ⟨_, List.getElem?_eq_getElem hk⟩
 obtain ⟨vs, hvs, hr⟩ := g1.get hxk
 have hl := R.len hr
 have hlen : k * R.sz + R.sz ≤ xs.length * R.sz := by rw [← Nat.succ_mul]; exact Nat.mul_le_mul_right _ hk
 have hcap : xs.length * R.sz ≤ cap * R.sz := Nat.mul_le_mul_right _ q3
 have hx' : bC s x = some (.pointer (some ⟨g, k * R.sz + off, none⟩)) := by rw [hx]; simp [bK]
 obtain ⟨w', e1, e2, e3⟩ := fN (P := P) (t := e) us w g (k * R.sz + off) 0 cur q2 (by omega) h1
 have hz := hrel S w vs xk hxk hr hT.ros.app
 have hfl := nl (yF g1) hvs (vs.take off ++ us ++ vs.drop (off + us.length))
 refine .inr (.inl ⟨w', L.set i (gj R e (.slice (some ⟨g, 0, none⟩) xs.length cap) (xs.set k z)), ?_, ?_, rfl⟩)
 ·unfold execOp
  have hcs : u.cells = us.toArray := by rw [← hv]
  simp only [hρ x _ hx', hρ y _ hy, Instr.storeAt, Instr.sureAddr, storeVar, Sem.run_bind, Sem.run_pure, Result.andThen_ok, fS hs w, hcs, List.size_toArray, ne_eq, not_true, if_false, e1]
 have hfin : SepL ((L ++ Z).set i (gj R e (.slice (some ⟨g, 0, none⟩) xs.length cap) (xs.set k z))) w' := by
  refine hT.upd (bA hi) (T' := T i) (Agr.of_fr e2 fun q hq e => hq (e ▸ g3 g rfl)) (fun _ => .inl) (fun q hq => Nat.lt_of_lt_of_le (hT.lt hq) e2.size) ?_
  have hS : Agr S w w' := Agr.of_fr e2 fun q hq e => hT.ro (g3 g rfl) (e ▸ hq)
  refine ⟨vss.set k (vs.take off ++ us ++ vs.drop (off + us.length)), (g1.imp fun _ _ => R.loc hS).set (R.loc hS hz) k, .inl ⟨?_, g3⟩⟩
  rw [List.length_set]
  have hnew : ((vss.set k (vs.take off ++ us ++ vs.drop (off + us.length))).flatten).length = xs.length * R.sz := by
   have := lH (R := R) (S := S) (w := w) (g1.set hz k)
   rw [this, List.length_set]
  refine ⟨hnew, .inr ⟨g, cap, _, rfl, Nat.zero_le _, e3, q3, q4, by rw [wR]; exact q5, ?_⟩⟩
  have hcur : cur = cur.toList.toArray := by simp
  have hsz : k * R.sz + off + us.length ≤ cur.toList.length := by simp; omega
  rw [Nat.add_zero, hcur, Ce _ _ _ hsz, hfl.2]
  have hF : vss.flatten = cur.toList.take (xs.length * R.sz) := q6.symm
  have hFl : vss.flatten.length = xs.length * R.sz := g2.1
  apply List.ext_getElem?
  intro j
  have hvl : vs.length = R.sz := hl
  have key : ∀ j', j' < R.sz → vs[j']? = vss.flatten[k * R.sz + j']? := fun j' hj' => by
   have h5 : vs[j']? = some (vs[j']'(by omega)) := List.getElem?_eq_getElem (by omega)
   rw [h5]
   exact (lI g1 hvs h5).symm
  by_cases hj : j < xs.length * R.sz
  ·rw [List.getElem?_take, if_pos hj]
   by_cases c1 : j < k * R.sz
   ·rw [List.append_assoc, List.getElem?_append_left (by rw [List.length_take]; simp; omega), List.getElem?_take, if_pos (by omega), List.append_assoc, List.getElem?_append_left (by rw [List.length_take]; omega), List.getElem?_take, if_pos c1, hF, List.getElem?_take, if_pos hj]
   by_cases c2 : j < k * R.sz + off
   ·rw [List.append_assoc, List.getElem?_append_left (by rw [List.length_take]; simp; omega), List.getElem?_take, if_pos c2]
    rw [List.append_assoc, List.getElem?_append_right (by rw [List.length_take]; omega), List.length_take, show min (k * R.sz) vss.flatten.length = k * R.sz by omega]
    rw [List.append_assoc, List.append_assoc, List.getElem?_append_left (by rw [List.length_take]; omega), List.getElem?_take, if_pos (by omega), key _ (by omega), show k * R.sz + (j - k * R.sz) = j by omega, hF, List.getElem?_take, if_pos hj]
   by_cases c3 : j < k * R.sz + off + us.length
   ·rw [List.append_assoc, List.getElem?_append_right (by rw [List.length_take]; simp; omega), List.length_take, show min (k * R.sz + off) cur.toList.length = k * R.sz + off by omega, List.getElem?_append_left (by omega)]
    rw [List.append_assoc, List.getElem?_append_right (by rw [List.length_take]; omega), List.length_take, show min (k * R.sz) vss.flatten.length = k * R.sz by omega]
    rw [List.append_assoc, List.append_assoc, List.getElem?_append_right (by rw [List.length_take]; omega), List.length_take, show min off vs.length = off by omega, List.getElem?_append_left (by omega)]
    congr 1; omega
   rw [List.append_assoc, List.getElem?_append_right (by rw [List.length_take]; simp; omega), List.length_take, show min (k * R.sz + off) cur.toList.length = k * R.sz + off by omega, List.getElem?_append_right (by omega), List.getElem?_drop]
   rw [List.append_assoc, List.getElem?_append_right (by rw [List.length_take]; omega), List.length_take, show min (k * R.sz) vss.flatten.length = k * R.sz by omega]
   rw [List.append_assoc, List.append_assoc, List.getElem?_append_right (by rw [List.length_take]; omega), List.length_take, show min off vs.length = off by omega, List.getElem?_append_right (by omega)]
   by_cases c4 : j < k * R.sz + R.sz
   ·rw [List.getElem?_append_left (by rw [List.length_drop]; omega), List.getElem?_drop, key _ (by omega), hF, List.getElem?_take, if_pos (by omega)]
    congr 1; omega
   rw [List.getElem?_append_right (by rw [List.length_drop]; omega), List.length_drop, List.getElem?_drop, hF, List.getElem?_take, if_pos (by omega)]
   congr 1; omega
  rw [List.getElem?_take, if_neg hj]
  refine (List.getElem?_eq_none ?_).symm
  rw [← hfl.2, hnew]; omega
 rw [ma Z hi] at hfin
 exact hfin
theorem pQ {α β : Type} {ek : α → Value} {ev : β → Value} {t kt et : TypeId} {x : Operand} {n : Int} (hx : bC s x = some (.int .i64 n)) (ht : P.underlying t = some (.map kt et)) : OpX P s L ⟨d, .makeMap t (some x), ty, pos, af, gd⟩ fun u L' => ∃ m, u = .map (some m) ∧ L' = bw ek ev m ([] : List (α × β)) :: L := fun ρ hρ Z w hw => by
 refine .inl ⟨.map (some w.heap.size), w.alloc (.map #[] 0), bw ek ev w.heap.size [] :: L, ?_, SepL.new hw (Agr.of_ext ((Ext.refl w).alloc _)) fun _ S _ => ⟨(· = w.heap.size), fun q hq => by subst hq; simp, rfl, #[], 0, heap_alloc_new w _, by simp, by simp, by simp⟩, _, rfl, rfl⟩
 unfold execOp
 simp only [Option.map_some, hρ x _ hx, Instr.makeMap, Sem.run_bind, run_underlying ht, Result.andThen_ok, asInt]
 rfl
theorem o8 {P : Program} {w : World} {m c : Nat} {code : BoundsCode} (h : m ≤ c) : (Instr.sliceBound (.int .i64 (m : Int)) c code).run P w = .ok m w := by
 unfold Instr.sliceBound
 simp only [asIntOf, Sem.run_bind, Sem.run_pure, Result.andThen_ok]
 rw [if_pos ⟨by omega, by omega⟩]
 simp
end
section
variable {P : Program} {s : bu} {L : List Chunk} {d : Option Nat} {ty : TypeId} {pos : String} {af : Array Edge} {gd : Option (Nat × Bool)}
end
end Go.Proofs.Ytmbaennilhdieaa
namespace Go.Proofs.Ytmbaennilhdieaa
open Go.RowKit
def yR (p : Prop) : Chunk where
 ok _ _ _ := p
 loc := fun _ h => h
 mono := fun _ h => h
 ro := true
 dup := fun _ _ _ _ h => h
theorem At {L Z : List Chunk} {w : World} {p : Prop} (h : Sp Z L w) (i : Nat) (hi : L[i]? = some (yR p)) : p := by
 obtain ⟨T, S, h⟩ := h.get (bA hi)
 exact h
theorem xl {L : List Chunk} {p : Prop} (hp : p) : Cv L (yR p :: L) := fun Z w h => SepL.fact0 h fun _ => hp
inductive Rch (ops : Array Oper) : Nat → Nat → Prop
 | one {j : Nat} {o : Oper} {e : Edge} : ops[j]? = some o → e ∈ o.after → Region.binds .any e = true → Rch ops j e.on
 | more {j k : Nat} {o : Oper} {e : Edge} : Rch ops j k → ops[k]? = some o → e ∈ o.after → Region.binds .any e = true → Rch ops j e.on
def qx (ops : Array Oper) (listed : Array Bool) : Prop := ∀ k o e, listed.getD k false = true → ops[k]? = some o → e ∈ o.after → Region.binds .any e = true → listed.getD e.on false = true
theorem nz {ops : Array Oper} {listed : Array Bool} {j i : Nat} (hc : qx ops listed) (hr : j ∈ Region.ready .any ops listed) (h : Rch ops j i) : listed.getD i false = true := by
 induction h with
 | one ho he hb => obtain ⟨_, o', ho', hall⟩ := mem_ready.1 hr; rw [ho] at ho'; cases ho'; exact hall _ he hb
 | more _ ho he hb ih => exact hc _ _ _ ih ho he hb
theorem jo {listed : Array Bool} {i k : Nat} (h : (listed.setIfInBounds i true).getD k false = true) : k = i ∨ listed.getD k false = true := by
 by_cases e : i = k
 ·exact .inl e.symm
 rw [getD_set_ne false e] at h; exact .inr h
theorem wl {ops : Array Oper} {listed : Array Bool} {j : Nat} (hc : qx ops listed) (hr : j ∈ Region.ready .any ops listed) : qx ops (listed.setIfInBounds j true) := by
 intro k o e hk ho he hb
 rcases jo hk with e1 | hk
 ·subst e1
  obtain ⟨_, o', ho', hall⟩ := mem_ready.1 hr
  rw [ho] at ho'; cases ho'
  exact getD_set_true (hall _ he hb)
 exact getD_set_true (hc _ _ _ hk ho he hb)
def oz (ops : Array Oper) (k : Nat) : List Nat := match ops[k]? with
 | some o => (o.after.toList.filter (Region.binds .any)).map (·.on)
 | none => []
def yE (ops : Array Oper) (R : List Nat) (k : Nat) : List Nat := if R.contains k then oz ops k ++ R else R
def pe (ops : Array Oper) (t : Nat) : List Nat := (List.range t).reverse.foldl (yE ops) (oz ops t)
theorem rf {ops : Array Oper} {k x : Nat} (h : x ∈ oz ops k) : ∃ o e, ops[k]? = some o ∧ e ∈ o.after ∧ Region.binds .any e = true ∧ e.on = x := by
 unfold oz at h
 split at h
 ·rename_i o ho
  obtain ⟨e, he, rfl⟩ := List.mem_map.1 h
  obtain ⟨h1, h2⟩ := List.mem_filter.1 he
  exact ⟨o, e, ho, by simpa using h1, h2, rfl⟩
 cases h
theorem lK {ops : Array Oper} {t : Nat} : ∀ x ∈ pe ops t, Rch ops t x := by
 unfold pe
 have key : ∀ (l : List Nat) (R : List Nat), (∀ x ∈ R, Rch ops t x) → ∀ x ∈ l.foldl (yE ops) R, Rch ops t x := by
  intro l
  induction l with
  | nil => intro R h; exact h
  | cons k l ih =>
   intro R h
   refine ih _ fun x hx => ?_
   unfold yE at hx
   split at hx
   ·rename_i hk
    rcases List.mem_append.1 hx with h1 | h1
    ·obtain ⟨o, e, ho, he, hb, rfl⟩ := rf h1
     exact .more (h k (by simpa using hk)) ho he hb
    exact h x h1
   exact h x hx
 refine key _ _ fun x hx => ?_
 obtain ⟨o, e, ho, he, hb, rfl⟩ := rf hx
 exact .one ho he hb
def OpAt (P : Program) (ρ : Operand → Value) (o : Oper) (R : Value → List Chunk → Prop) (Z : List Chunk) (w : World) : Prop :=
  (∃ v w' L', (execOp ρ o).run P w = .ok (.value v) w' ∧ Sp Z L' w' ∧ R v L') ∨
  (∃ w' L', (execOp ρ o).run P w = .ok .skip w' ∧ Sp Z L' w' ∧ R undef L') ∨
  (∃ f args, (execOp ρ o).run P w = .ok (.enter f args) w ∧ Calls P f args w fun e w' => ∃ v L', e = .returned v ∧ Sp Z L' w' ∧ R v L') ∨
  (∃ l f tmps assign body, (execOp ρ o).run P w = .ok (.round l f tmps assign body) w ∧ RoundIn Fence.wide 0 P l f tmps assign body w fun e w' => ∃ v L', e = .returned v ∧ Sp Z L' w' ∧ R v L')
def MS (P : Program) (ops : Array Oper) (s : bu) (L : List Chunk) (o : Oper) (A : Value → List Chunk) : Prop := ∀ Z w, Sp Z L w → (bo ops s o = some true ∧ ∀ ρ : Operand → Value, (∀ x u, bC s x = some u → ρ x = u) → OpAt P ρ o (fun u L' => Cv L' (A u ++ L)) Z w) ∨ (bo ops s o = some false ∧ Sp Z (A undef ++ L) w)
section
variable {P : Program} {ops : Array Oper} {s : bu} {L : List Chunk} {o : Oper} {A : Value → List Chunk}
end
def vv (X : Cx) (ops : Array Oper) (K : K3) (fuel : Nat) (listed : Array Bool) (s : bu) (L : List Chunk) : Prop := ∀ (H : List Chunk) (Ds : List Nat) (a : Act) (w : World), Fx X s a → a.defers = Ds.map lq → Sp (Ds.map bx ++ H) L w → wpAnyIn (rN X.r) 0 X.P .any ops (mY X H (oA K)) fuel listed a w
section
variable {X : Cx} {ops : Array Oper} {K : K3} {s : bu} {L : List Chunk} {fuel : Nat} {listed : Array Bool} {d : Nat} {op : Op} {ty : TypeId} {pos : String} {af : Array Edge} {gd : Option (Nat × Bool)}
theorem gM (hr : Region.ready .any ops listed = []) (h : K .normal s L) : vv X ops K fuel listed s L := by
 intro H Ds a w ha hds hw
 have hq : mY X H (oA K) .normal a w := ⟨s, L, Ds, ha, hds, hw, rfl, h⟩
 cases fuel with
 | zero => exact ⟨hr, hq⟩
 | succ n => exact ⟨fun _ => hq, by rw [hr]; simp⟩
theorem jN {t : bu} {L' : List Chunk} (h : vv X ops K fuel listed t L') (hs : qw s t) (hl : Cv L L') : vv X ops K fuel listed s L := fun H Ds a w ha hds hw => h H Ds a w (ha.sub hs) hds (hl _ _ hw)
theorem uf {L' : List Chunk} (L : List Chunk) (h : L' = L) (k : vv X ops K fuel listed s L) : vv X ops K fuel listed s L' := h ▸ k
theorem Dn (i : Nat) {o : Oper} {R : Value → List Chunk → Prop} (hi : ops[i]? = some o) (hr : Region.ready .any ops listed = [i]) (h : OpX X.P s L o R) (hn : f0 o = true) (hg : bo ops s o = some true) (hd : vc X.n o.dst = true) (k : ∀ v L', R v L' → vv X ops K fuel (listed.setIfInBounds i true) (putE o.dst v s) L') : vv X ops K (fuel + 1) listed s L :=
 fun H Ds a w ha hds hw => ⟨fun h => absurd (hr.symm.trans h) (by simp), fun j hj => by
  rw [hr, List.mem_singleton] at hj
  subst hj
  unfold wpOpIn
  rw [hi]
  simp only [cH ha hg, if_true]
  exact h.wpIn hn ha hw fun v L' w' h1 h2 => k v L' h1 H Ds _ _ (ha.putE v hd) ((put_defers _ _ _).trans hds) h2⟩
theorem sU (i : Nat) {R : Value → List Chunk → Prop} (hi : ops[i]? = some ⟨some d, op, ty, pos, af, gd⟩) (hr : Region.ready .any ops listed = [i]) (h : OpX X.P s L ⟨some d, op, ty, pos, af, gd⟩ R) (hn : f0 ⟨some d, op, ty, pos, af, gd⟩ = true) (hg : bo ops s ⟨some d, op, ty, pos, af, gd⟩ = some true) (hd : Nat.ble (d + 1) X.n = true) (k : ∀ v L', R v L' → vv X ops K fuel (listed.setIfInBounds i true) ((d, v) :: s) L') : vv X ops K (fuel + 1) listed s L := Dn i hi hr h hn hg hd k
theorem mq (i : Nat) {R : Value → List Chunk → Prop} (hi : ops[i]? = some ⟨none, op, ty, pos, af, gd⟩) (hr : Region.ready .any ops listed = [i]) (h : OpX X.P s L ⟨none, op, ty, pos, af, gd⟩ R) (hn : f0 ⟨none, op, ty, pos, af, gd⟩ = true) (hg : bo ops s ⟨none, op, ty, pos, af, gd⟩ = some true) (k : ∀ v L', R v L' → vv X ops K fuel (listed.setIfInBounds i true) s L') : vv X ops K (fuel + 1) listed s L := Dn i hi hr h hn hg rfl k
theorem oZ (i : Nat) {v : Value} (hi : ops[i]? = some ⟨some d, op, ty, pos, af, gd⟩) (hr : Region.ready .any ops listed = [i]) (h : Ev X.P s (fun _ => True) ⟨some d, op, ty, pos, af, gd⟩ v) (hn : f0 ⟨some d, op, ty, pos, af, gd⟩ = true) (hg : bo ops s ⟨some d, op, ty, pos, af, gd⟩ = some true) (hd : Nat.ble (d + 1) X.n = true) (k : vv X ops K fuel (listed.setIfInBounds i true) ((d, v) :: s) L) : vv X ops K (fuel + 1) listed s L := sU i hi hr (yY h) hn hg hd fun _ _ ⟨e1, e2⟩ => by subst e1 e2; exact k
end
def rO (m : Nat) (listed : Array Bool) : List Nat := (List.range m).filter fun i => listed.getD i false
def C4 (ops : Array Oper) (m : Nat) (qs : List Nat) (ds : List Nat) (pr : List (List Nat)) (s : bu) (n : Nat) : Bool :=
 Region.noSelect ops && qs.all (fun q => (match ops[q]? with | some o => (List.range ops.size).all fun j => Nat.beq j q || (oz ops j).contains q || (pe ops q).contains j || (match ops[j]? with | some oj => o.apart ops oj | none => true) | none => false)) && zb ops && decide (m ≤ ops.size) && decide (ds.length = m) && decide ds.Nodup && ds.all (fun d => Nat.ble (d + 1) n && s.all fun p => !Nat.beq p.1 d)
 && (List.range m).all (fun i => (match ops[i]? with | some o => o.dst == ds[i]? | none => false) && (pr.getD i []).all (fun k => (pe ops i).contains k && Nat.blt k m) && decide (pr.getD i []).Nodup && (oz ops i).all fun k => Nat.blt k i)
 && (List.range ops.size).all (fun t => Nat.blt t m || (List.range m).all fun i => qs.contains i || (pe ops t).contains i)
def r8 (ds : List Nat) (val : Nat → Value) (ix : List Nat) (s : bu) : bu := ix.map (fun i => (ds.getD i 0, val i)) ++ s
def pX (As : List (Value → List Chunk)) (val : Nat → Value) (ix : List Nat) (L : List Chunk) : List Chunk := (ix.flatMap fun i => (As.getD i fun _ => []) (val i)) ++ L
theorem oE : ∀ (a b : bu) (k : Nat) (v : Value), eb (a ++ b) k = some v → eb a k = some v ∨ (eb b k = some v)
 | [], _, _, _, h => .inr h
 |(d, u) :: a, b, k, v, h => by
  rw [List.cons_append, eB] at h
  rw [eB]
  split at h
  ·rename_i e; rw [if_pos e]; exact .inl h
  rename_i e
  rw [if_neg e]
  exact oE a b k v h
theorem ku : ∀ (a : bu) (k : Nat) (v : Value), eb a k = some v → (k, v) ∈ a
 | [], _, _, h => by cases h
 |(d, u) :: a, k, v, h => by
  rw [eB] at h
  split at h
  ·rename_i e; cases h; subst e; simp
  simp [ku a k v h]
theorem OpAt.wpIn {X : Cx} {o : Oper} {R : Value → List Chunk → Prop} {Z : List Chunk} {a : Act} {w : World} (h : OpAt X.P a.eval o R Z w) (hn : f0 o = true)
  {K : Act → World → Prop} {Q : Exit → Act → World → Prop} (hK : ∀ v L' w', R v L' → Sp Z L' w' → K (a.put o.dst v) w') : o.wpIn (rN X.r) 0 X.P a w K Q := by
 refine ⟨fun _ _ => trivial, ?_⟩
 have e : o.semAt (rN X.r).round a.eval = execOp a.eval o := Oper.semAt_eq _ _ _ fun c hc => by unfold f0 at hn; rw [hc] at hn; cases hn
 rw [e]
 rcases h with ⟨v, w', L', h1, h2, h3⟩ | ⟨w', L', h1, h2, h3⟩ | ⟨f, args, h1, h2⟩ | ⟨l, f, tmps, assign, body, h1, h2⟩
 ·rw [h1]; exact hK _ _ _ h3 h2
 ·rw [h1]; exact hK _ _ _ h3 h2
 ·rw [h1]
  refine ⟨(by intro h; cases h), ?_⟩
  have h3 : CallsIn (rN X.r) (0 - 1) X.P f args w _ := callsIn_wide.2 h2
  refine h3.mono ?_
  rintro e w' ⟨v, L', rfl, h4, h5⟩
  exact hK _ _ _ h5 h4
 rw [h1]
 refine ⟨(by intro h; cases h), ?_⟩
 have h3 : RoundIn (rN X.r) (0 - 1) X.P l f tmps assign body w _ := h2
 refine h3.mono ?_
 rintro e w' ⟨v, L', rfl, h4, h5⟩
 exact hK _ _ _ h5 h4
theorem eP : ∀ (ix : List Nat) (l : Array Bool), (i6 l ix).size = l.size
 | [], _ => rfl
 | i :: ix, l => by show (i6 (l.setIfInBounds i true) ix).size = _; rw [eP ix]; simp
theorem ny : ∀ (ix : List Nat) (l : Array Bool) (k : Nat), k < l.size → (i6 l ix).getD k false = (l.getD k false || ix.contains k)
 | [], _, _, _ => by simp [i6]
 | i :: ix, l, k, hk => by
  show (i6 (l.setIfInBounds i true) ix).getD k false = _
  rw [ny ix _ k (by simpa using hk)]
  by_cases e : i = k
  ·subst e
   simp [hk]
  rw [getD_set_ne false e]
  simp [show ¬ k = i from fun h => e h.symm]
theorem gq {m : Nat} {listed : Array Bool} {i : Nat} : i ∈ rO m listed ↔ i < m ∧ listed.getD i false = true := by unfold rO; simp
theorem lst_nodup {m : Nat} {listed : Array Bool} : (rO m listed).Nodup := List.nodup_range.filter _
theorem qu {As : List (Value → List Chunk)} {val : Nat → Value} {a b : List Nat} (h : a.Perm b) : (a.flatMap fun i => (As.getD i fun _ => []) (val i)).Perm (b.flatMap fun i => (As.getD i fun _ => []) (val i)) := h.flatMap_right _
theorem Ab {r : Option Nat} {P : Program} {ops : Array Oper} {Q : Exit → Act → World → Prop} : ∀ (fuel : Nat) (listed : Array Bool) (a : Act) (w : World), wpAnyIn (rN r) 0 P .any ops Q fuel listed a w → sZ r P ops Q (fun _ => True) fuel listed a w
 | 0, _, _, _, h => h
 | fuel + 1, listed, a, w, h => ⟨h.1, fun i hi => wpOpIn_mono (fun a w hh => ⟨trivial, Ab fuel _ a w hh⟩) (h.2 i hi)⟩
def QS (P : Program) (ops : Array Oper) (s : bu) (L : List Chunk) (o : Oper) (A : Value → List Chunk) : Prop := ∀ Z w, Sp Z L w → ∃ v, bo ops s o = some true ∧ Ev P s (fun _ => True) o v ∧ Sp Z (A v ++ L) w
def CX (P : Program) (ops : Array Oper) (s : bu) (L L0 : List Chunk) (o : Oper) (A : Value → List Chunk) : Prop := ∀ Z w, Sp Z L w → ∃ v, bo ops s o = some true ∧ Ev P s (fun _ => True) o v ∧ Sp Z (A v ++ L0) w
theorem nn {P : Program} {ops : Array Oper} {s : bu} {L L0 : List Chunk} {o : Oper} {A : Value → List Chunk} {v : Value} (h : Ev P s (fun _ => True) o v) (hg : bo ops s o = some true) (k : Cv L (A v ++ L0)) : CX P ops s L L0 o A := fun _ _ hw => ⟨v, hg, h, k _ _ hw⟩
theorem db {p : Nat → Oper → Prop} {ops : Array Oper} : ∀ (i : Nat) (o : Oper), i < 0 → ops[i]? = some o → p i o := fun i o h => by omega
theorem ae {p : Nat → Oper → Prop} {ops : Array Oper} {n : Nat} {o' : Oper} (ho : ops[n]? = some o') (h2 : p n o') (h1 : ∀ (i : Nat) (o : Oper), i < n → ops[i]? = some o → p i o) : ∀ (i : Nat) (o : Oper), i < n + 1 → ops[i]? = some o → p i o := fun i o hi h => by
 by_cases e : i = n
 ·subst e; rw [ho] at h; cases h; exact h2
 exact h1 i o (by omega) h
theorem gG {p : Nat → Oper → Prop} {ops : Array Oper} {m : Nat} : ∀ q ∈ ([] : List Nat), ∀ (o : Oper), q < m → ops[q]? = some o → p q o := fun q h => by cases h
theorem eI {p : Nat → Oper → Prop} {ops : Array Oper} {m q' : Nat} {qs : List Nat} {o' : Oper} (ho : ops[q']? = some o') (h2 : p q' o') (h1 : ∀ q ∈ qs, ∀ (o : Oper), q < m → ops[q]? = some o → p q o) : ∀ q ∈ q' :: qs, ∀ (o : Oper), q < m → ops[q]? = some o → p q o := fun q hq o hm h => by
 rcases List.mem_cons.1 hq with e | hq
 ·subst e; rw [ho] at h; cases h; exact h2
 exact h1 q hq o hm h
def xC (P : Program) (ops : Array Oper) (s : bu) (L L0 : List Chunk) (o : Oper) (A : Value → List Chunk) : Prop := ∀ Z w, Sp Z L w → (bo ops s o = some true ∧ ∀ ρ : Operand → Value, (∀ x u, bC s x = some u → ρ x = u) → OpAt P ρ o (fun u L' => Cv L' (A u ++ L0)) Z w) ∨ (bo ops s o = some false ∧ Sp Z (A undef ++ L0) w)
section
variable {P : Program} {ops : Array Oper} {s : bu} {L L0 : List Chunk} {o : Oper} {A : Value → List Chunk}
theorem Dm {L' : List Chunk} (hl : Cv L L') (h : xC P ops s L' L0 o A) : xC P ops s L L0 o A := fun Z w hw => h Z w (hl _ _ hw)
theorem Dl {α : Type} {R : Rep α} {v : Value} {xs : List α} {k : Nat} {x : α} {Q : List Value → List Chunk → Prop} (i : Nat) (hi : L[i]? = some (kE R v xs)) (hx : xs[k]? = some x) (ho : sT R x Q) (h : ∀ vs cs, Q vs cs → xC P ops s (ki (bK v k R.sz 0) vs :: (cs ++ L)) L0 o A) : xC P ops s L L0 o A := fun Z w hw => by
 obtain ⟨vs, cs, h1, h2⟩ := pa hw hi hx ho
 exact h vs cs h1 Z w h2
theorem jy {R : Value → List Chunk → Prop} (h : OpX P s L o R) (hg : bo ops s o = some true) (k : ∀ u L', R u L' → Cv L' (A u ++ L0)) : xC P ops s L L0 o A := fun Z w hw => .inl ⟨hg, fun ρ hρ => by
 rcases h ρ hρ Z w hw with ⟨v, w', L', h1, h2, h3⟩ | ⟨w', L', h1, h2, h3⟩ | ⟨f, args, h1, h2⟩ | ⟨l, f, t, a, b, h1, h2⟩
 ·exact .inl ⟨v, w', L', h1, h2, k _ _ h3⟩
 ·exact .inr (.inl ⟨w', L', h1, h2, k _ _ h3⟩)
 ·exact .inr (.inr (.inl ⟨f, args, h1, h2.mono fun e w' ⟨v, L', g1, g2, g3⟩ => ⟨v, L', g1, g2, k _ _ g3⟩⟩))
 ·exact .inr (.inr (.inr ⟨l, f, t, a, b, h1, h2.mono fun e w' ⟨v, L', g1, g2, g3⟩ => ⟨v, L', g1, g2, k _ _ g3⟩⟩))⟩
theorem bj {v : Value} (h : Ev P s (fun _ => True) o v) (hg : bo ops s o = some true) (k : Cv L (A v ++ L0)) : xC P ops s L L0 o A := jy (yY h) hg fun u L' ⟨e1, e2⟩ => by subst e1 e2; exact k
theorem bW {v : Value} (h : Rd P s L o v) (hg : bo ops s o = some true) (k : Cv L (A v ++ L0)) : xC P ops s L L0 o A := jy (BK h) hg fun u L' ⟨e1, e2⟩ => by subst e1 e2; exact k
theorem fm (hg : bo ops s o = some false) (k : Cv L (A undef ++ L0)) : xC P ops s L L0 o A := fun Z w hw => .inr ⟨hg, k _ _ hw⟩
end
def cl (u : Value) (k : Nat) : Value := u.cells.getD k undef
def tl (u : Value) (k : Nat) : Value := match u with | .tuple vs => vs.getD k undef | _ => undef
def pb (u : Value) : Nat := match u with | .pointer (some a) => a.block | _ => 0
def mb (u : Value) : Nat := match u with | .map (some m) => m | _ => 0
end Go.Proofs.Ytmbaennilhdieaa
namespace Go.Proofs.Ytmbaennilhdieaa
open Go.RowKit
section
variable {P : Program} {s : bu} {C : World → Prop} {d : Option Nat} {ty : TypeId} {pos : String} {af : Array Edge} {gd : Option (Nat × Bool)}
theorem xL {t e : TypeId} (ht : P.underlying t = some (.slice e)) (A : Option Addr) (n c : Nat) (w : World) : (Op.equal t (.slice A n c) (.slice none 0 0)).run P w = .ok A.isNone w := by
 show (Op.equalIn (9999 + 1) t (.slice A n c) (.slice none 0 0)).run P w = _
 unfold Op.equalIn
 rw [Sem.run_bind, run_underlying ht, Result.andThen_ok]
 cases A <;> rfl
theorem uY {t e u : TypeId} {x : Operand} {A : Option Addr} {n c : Nat} (hx : bC s x = some (.slice A n c)) (ht : P.underlying t = some (.slice e)) : Ev P s C ⟨d, .binOp .eql t x (.const (.slice none 0 0)) u, ty, pos, af, gd⟩ (.bool A.isNone) :=
 fz hx rfl fun w => by
  rw [Sem.run_bind]
  show (binOp .eql t (.slice A n c) (.slice none 0 0)).run P w = _
  have h1 : (Op.equal t (.slice A n c) (.slice none 0 0)).run P w = .ok A.isNone w := xL ht A n c w
  simp only [binOp, Sem.run_bind, h1, Result.andThen_ok]
  rfl
theorem pA {t u : TypeId} {x y : Operand} {k k2 : IntKind} {a b : Int} (hx : bC s x = some (.int k a)) (hy : bC s y = some (.int k b)) (ht : P.underlying t = some (.int k2)) (hu : P.underlying u = some (.int k2)) : Ev P s C ⟨d, .call ⟨.builtin .min, #[x, y], #[t, u]⟩, ty, pos, af, gd⟩ (.int k (min a b)) := fun ρ hρ w _ => by
 rw [fT (P := P) (ρ := ρ) (xs := [x, y]) (vs := [.int k a, .int k b]) (by simp [hρ x _ hx, hρ y _ hy]) w]
 have e : (if b < a then b else a) = min a b := by rw [Int.min_def]; split <;> split <;> omega
 cases k <;> simp [builtin, Builtin.min_, Builtin.min2, e]
theorem qt {t e : TypeId} {x : Operand} (hx : bC s x = some (.slice none 0 0)) (ht : P.underlying t = some (.slice e)) : Ev P s C ⟨d, .call ⟨.builtin .cap, #[x], #[t]⟩, ty, pos, af, gd⟩ (.int .i64 0) := fun ρ hρ w _ => by
 rw [fT (P := P) (ρ := ρ) (xs := [x]) (vs := [.slice none 0 0]) (by simp [hρ x _ hx]) w]
 simp [builtin, Builtin.cap_, run_underlying ht, goInt]
end
def DF (P : Program) (s : bu) (L : List Chunk) (o : Oper) (v : Value) : Prop := ∀ Z w, Sp Z L w → Ev P s (fun _ => True) o v
theorem xB {P : Program} {ops : Array Oper} {s : bu} {L L0 : List Chunk} {o : Oper} {A : Value → List Chunk} {v : Value} (h : DF P s L o v) (hg : bo ops s o = some true) (k : Cv L (A v ++ L0)) : CX P ops s L L0 o A := fun Z w hw => ⟨v, hg, h Z w hw, k _ _ hw⟩
section
variable {P : Program} {s : bu} {L : List Chunk} {d : Option Nat} {ty : TypeId} {pos : String} {af : Array Edge} {gd : Option (Nat × Bool)}
theorem yP {α : Type} {R : Rep α} {t : TypeId} {x : Operand} {v : Value} {xs : List α} {c : Chunk} {e : TypeId} (i : Nat) (hi : L[i]? = some c) (he : yq R v xs c) (hx : bC s x = some v) (ht : P.underlying t = some (.slice e)) : DF P s L ⟨d, .call ⟨.builtin .len, #[x], #[t]⟩, ty, pos, af, gd⟩ (.int .i64 (xs.length : Int)) := fun Z w hw => by
 obtain ⟨T, S, h⟩ := hw.get (bA hi)
 obtain ⟨A, cap, rfl, -⟩ := he _ _ _ h
 exact jp hx ht
theorem yQ {α : Type} {R : Rep α} {t e sz : Nat} {x : Operand} {lo : Option Operand} {y : Operand} {A A' : Option Addr} {n c n' c' : Nat} {xs : List α} {l h : Nat} (i : Nat) (hL : L[i]? = some (kE R (.slice A n c) xs)) (he : A' = jW A c l R.sz ∧ n' = h - l ∧ c' = c - l) (hx : bC s x = some (.slice A n c)) (hu : P.underlying t = some (.slice e)) (hs : dV P e sz = true) (hsz : R.sz = sz)
  (hl : match lo with | none => l = 0 | some o => bC s o = some (.int .i64 (l : Int))) (hh : bC s y = some (.int .i64 (h : Int))) (h1 : l ≤ h) (h2 : h ≤ xs.length) : DF P s L ⟨d, .slice t x lo (some y) none, ty, pos, af, gd⟩ (.slice A' n' c') := fun Z w hw => by
 obtain ⟨rfl, rfl, rfl⟩ := he
 subst hsz
 obtain ⟨T, S, A2, c2, e2, g1, -⟩ := hw.get (bA hL)
 injection e2 with q1 q2 q3
 subst q1 q2 q3
 exact mf (hi := some y) hx hu hs hl hh h1 (by omega)
end
theorem Ae {α : Type} {R : Rep α} {P : Program} {ops : Array Oper} {s : bu} {L L0 : List Chunk} {o : Oper} {A0 : Value → List Chunk} {A : Option Addr} {n c : Nat} {xs : List α} (i : Nat) (hi : L[i]? = some (kE R (.slice A n c) xs)) {l h : Nat} (h1 : l ≤ h) (h2 : h ≤ xs.length) (k : ∀ A' n' c', A' = jW A c l R.sz ∧ n' = h - l ∧ c' = c - l → CX P ops s (kE R (.slice A' n' c') ((xs.drop l).take (h - l)) :: L) L0 o A0) : CX P ops s L L0 o A0 := fun Z w hw => k _ _ _ ⟨rfl, rfl, rfl⟩ Z w (mK hw hi h1 h2)
theorem Ad {α : Type} {R : Rep α} {P : Program} {ops : Array Oper} {s : bu} {L L0 : List Chunk} {o : Oper} {A0 : Value → List Chunk} {A : Option Addr} {n c : Nat} {xs : List α} (i : Nat) (hi : L[i]? = some (kE R (.slice A n c) xs)) {l h : Nat} (h1 : l ≤ h) (h2 : h ≤ xs.length) (k : ∀ A' n' c', A' = jW A c l R.sz ∧ n' = h - l ∧ c' = c - l → xC P ops s (kE R (.slice A' n' c') ((xs.drop l).take (h - l)) :: L) L0 o A0) : xC P ops s L L0 o A0 := fun Z w hw => k _ _ _ ⟨rfl, rfl, rfl⟩ Z w (mK hw hi h1 h2)
theorem zt {α β : Type} {P : Program} {v : Value} {G : List Chunk} {en : α → List Value} {ev : β → Value} {φ : α → Option β} (h : wH P v G en ev φ) : v.cells.toList = [v] := by obtain ⟨_, f, bs, caps, rfl, _⟩ := h; rfl
theorem zW {a b : ByteArray} : a.toList = b.toList ↔ a = b := by
 constructor
 ·intro h
  rw [ByteArray.toList_eq, ByteArray.toList_eq] at h
  exact WideShapes.bytes_inj h
 rintro rfl; rfl
theorem BD {X : Cx} {K : K3} {s : bu} {L : List Chunk} {cd : Code} {α : Type} {R : Rep α} {A : Option Addr} {n c : Nat} {xs : List α} {ch : Chunk} (i : Nat) (hi : L[i]? = some ch) (he : yq R (.slice A n c) xs ch) (hA : A.isNone = true) (k : xs = [] → Wq X cd K s L) : Wq X cd K s L := fun H Ds a w ha hd hw => by
 obtain ⟨T, S, h⟩ := hw.get (bA hi)
 obtain ⟨A', cap, e, h1, h2, h3⟩ := he _ _ _ h
 have hx : xs = [] := by
  rcases Nat.eq_zero_or_pos xs.length with h0 | h0
  ·exact List.eq_nil_of_length_eq_zero h0
  obtain ⟨b, o, vss, e2, -⟩ := h3 h0
  injection e with e
  rw [e, e2] at hA; cases hA
 exact k hx H Ds a w ha hd hw
section
variable {P : Program} {s : bu} {L : List Chunk} {d : Option Nat} {ty : TypeId} {pos : String} {af : Array Edge} {gd : Option (Nat × Bool)}
end
end Go.Proofs.Ytmbaennilhdieaa
namespace Go.Proofs.Ytmbaennilhdieaa
open Go.RowKit
def ky {α σ : Type} (P : Program) (l : Nat) (G : σ → List Chunk) (Q : α → List Value → List Chunk → Prop) (φ : α → σ → Option (Bool × σ)) : Prop :=
 ∀ x σ₁ b σ₂, φ x σ₁ = some (b, σ₂) → ∀ vs cs, Q x vs cs → ∀ Z w, Sp Z (cs ++ G σ₁) w → ∃ fn tmps assign body, (Instr.yield l vs.toArray).run P w = .ok (.round l fn tmps assign body) w ∧ RoundIn Fence.wide 0 P l fn tmps assign body w fun e w' => e = .returned (.bool b) ∧ Sp Z (G σ₂) w'
section
variable {P : Program} {s : bu} {d : Option Nat} {ty : TypeId} {pos : String} {af : Array Edge} {gd : Option (Nat × Bool)}
theorem ss {α σ : Type} {l : Nat} {G : σ → List Chunk} (E : List Chunk) {Q : α → List Value → List Chunk → Prop} {φ : α → σ → Option (Bool × σ)} {a : α} {σ₁ : σ} {y : Bool × σ} {x : Operand} {xs : List Operand} {ats : Array TypeId} {vs : List Value} {cs : List Chunk} (hY : ky P l G Q φ) (hr : φ a σ₁ = some y) (hx : bC s x = some (.func (.yield l) #[] #[])) (hv : yt s xs = some vs) (hq : Q a vs cs) (hd : Cv (E ++ G σ₁) (cs ++ (E ++ G σ₁))) : OpX P s (E ++ G σ₁) ⟨d, .call ⟨.value x, xs.toArray, ats⟩, ty, pos, af, gd⟩ fun u L' => u = .bool y.1 ∧ L' = E ++ G y.2 := fun ρ hρ Z2 w hw => by
 obtain ⟨b, σ₂⟩ := y
 have h0 := hd Z2 w hw
 have h1 : Sp (E ++ Z2) (cs ++ G σ₁) w := by
  have h2 : SepL ((cs ++ (E ++ G σ₁)) ++ Z2) w := h0
  refine SepL.perm h2 ?_
  simp only [List.append_assoc]
  exact List.Perm.append_left cs (List.perm_append_comm_assoc _ _ _)
 obtain ⟨fn, tmps, assign, body, h2, h3⟩ := hY a σ₁ b σ₂ hr vs cs hq _ w h1
 refine .inr (.inr (.inr ⟨l, fn, tmps, assign, body, ?_, ?_⟩))
 ·unfold execOp
  simp only [resolve, hρ x _ hx, Deferred.ofValue, List.map_toArray, kW hρ hv]
  simp only [invoke, Sem.run_bind, Sem.run_pure, Result.andThen_ok]
  simpa using h2
 refine h3.mono ?_
 rintro e w' ⟨rfl, h4⟩
 refine ⟨_, _, rfl, ?_, rfl, rfl⟩
 have h5 : SepL (G σ₂ ++ (E ++ Z2)) w' := h4
 refine SepL.perm h5 ?_
 simp only [List.append_assoc]
 exact List.perm_append_comm_assoc _ _ _
end
theorem yo {ι : Type} {Q : ι → List Chunk} {X : Cx} {K : K3} {s : bu} {c : Code} (cs : List Chunk) (h : ∀ x, Wq X c K s (cs ++ Q x)) : Wq X c K s (cs ++ [ec Q]) := fun H Ds a w ha hd hw => by
 have h1 : Sp (cs ++ (Ds.map bx ++ H)) [ec Q] w := by
  refine SepL.perm hw ?_
  simp only [List.append_assoc]
  exact List.perm_append_comm_assoc _ _ _
 obtain ⟨x, hx⟩ := fL h1
 have h2 : Sp (Ds.map bx ++ H) (cs ++ Q x) w := by
  refine SepL.perm hx ?_
  simp only [List.append_assoc, List.nil_append]
  exact List.perm_append_comm_assoc _ _ _
 exact h x H Ds a w ha hd h2
theorem yp {α σ : Type} {X : Cx} {K : K3} {s : bu} {g : Operand} {ps : List Nat} {assign body : Code} {gf : FuncId} {caps : Array Value} {Q : α → List Value → List Chunk → Prop} (φ : α → σ → Option (Option Exit × σ)) (E : σ → List Chunk) (pre : List Chunk) (σ₀ : σ) {je : Option Exit} {σr : σ} {L : List Chunk}
  (hr : X.r = none) (hg : bC s g = some (.func (.func gf) #[] caps)) (hf : au X.P gf) (hps : ps.all (fun p => Nat.ble (p + 1) X.n) = true) (hen : ∀ x vs cs, Q x vs cs → vs.length = ps.length)
  (hit : ∀ l (G : (Option Exit × σ) → List Chunk), ky X.P l G Q (cm φ) → Okc X.P gf (.func (.yield l) #[] #[] :: caps.toList) (pre ++ G (none, σ₀)) fun _ post => post = G (je, σr))
  (hL : Cv L (pre ++ E σ₀))
  (hbody : ∀ l x σ₁ je' σ₂, φ x σ₁ = some (je', σ₂) → ∀ vs cs, Q x vs cs → Wq ⟨X.P, X.n, some l⟩ assign (nx (fun s1 L1 => Wq ⟨X.P, X.n, some l⟩ body (RK je' (E σ₂)) s1 L1) fun _ _ _ => False) (qn ps vs s) (cs ++ E σ₁))
  (hdone : je = none → K .normal s (E σr)) (hleft : ∀ e, je = some e → (la e).isSome = true ∧ K e s (E σr)) :
  Wq X (.rangeFunc g ps.toArray assign body) K s L := by
 intro H Ds a w ha hds hw
 obtain ⟨P, n, r⟩ := X
 simp only at hr hf hps hit hbody
 subst hr
 refine wpIn_rangeFunc ?_
 intro fn hfn
 have hev : a.eval g = .func (.func gf) #[] caps := ha.eval hg
 obtain ⟨rec_, hrec⟩ : ∃ rec_ : Option Exit → LoopState → Loop, rec_ = fun j st => { state := st, pending := j.bind la, fn, tmps := a.tmps, params := ps.toArray, assign, body, defers := w.heap.size } := ⟨_, rfl⟩
 obtain ⟨stOf, hst⟩ : ∃ stOf : Option Exit → LoopState, stOf = fun j => if j.isNone then .ready else .done := ⟨_, rfl⟩
 obtain ⟨l, hl⟩ : ∃ l, l = w.heap.size + 1 := ⟨_, rfl⟩
 obtain ⟨W1, hW1⟩ : ∃ W1, (w.alloc (.deferred (some []))).alloc (.loop (rec_ none .ready)) = W1 := ⟨_, rfl⟩
 have hY : ky P l (fun q => er l (rec_ q.1 (stOf q.1)) :: E q.2) Q (cm φ) := by
  rintro x ⟨j₁, σ₁⟩ b ⟨j₂, σ₂⟩ hx vs cs hq Z w1 hw1
  unfold cm at hx
  cases j₁ with
  | some e => cases hx
  | none =>
   simp only at hx
   cases hφ : φ x σ₁ with
   | none => rw [hφ] at hx; cases hx
   | some y =>
    rw [hφ] at hx
    simp only [Option.map_some, Option.some.injEq, Prod.mk.injEq] at hx
    obtain ⟨hb, hy⟩ := hx
    subst hb hy
    have h0 : SepL (cs ++ (er l (rec_ none .ready) :: (E σ₁ ++ Z))) w1 := by
     have : stOf none = .ready := by rw [hst]; rfl
     simp only [this] at hw1
     unfold Sp at hw1; simpa only [List.append_assoc, List.cons_append] using hw1
    have hk1 := jE h0
    have hy := run_yield (P := P) (args := vs.toArray) hk1 (by rw [hrec]; simp [hen x vs cs hq])
    refine ⟨_, _, _, _, hy, roundIn_of_wpIn (F := Fence.wide) trivial ?_⟩
    have hfx : Fx ⟨P, n, some l⟩ (qn ps vs s) ⟨((rec_ none .ready).params.zip vs.toArray).foldl (fun t (p : Nat × Value) => t.setIfInBounds p.1 p.2) (rec_ none .ready).tmps, []⟩ := by
     have h1 := tK (X := ⟨P, n, some l⟩) (ds := []) (ps.zip vs) s a.tmps (by
      rw [List.all_eq_true] at hps ⊢
      intro p hp
      exact hps p.1 (List.of_mem_zip hp).1) ⟨ha.size, ha.at_⟩
     have e : (((rec_ none .ready).params.zip vs.toArray).foldl (fun t (p : Nat × Value) => t.setIfInBounds p.1 p.2) (rec_ none .ready).tmps) = (ps.zip vs).foldl (fun t (p : Nat × Value) => t.setIfInBounds p.1 p.2) a.tmps := by
      rw [hrec]; simp
     rw [e]
     exact h1
    have hsp : Sp (([] : List Nat).map bx ++ (er l (rec_ none .ready) :: Z)) (cs ++ E σ₁) w1 := h0.perm (by simpa only [List.append_assoc, List.map_nil, List.nil_append] using List.Perm.append_left cs List.perm_middle.symm)
    have hrun := hbody l x σ₁ j₂ σ₂ hφ vs cs hq (er l (rec_ none .ready) :: Z) [] _ w1 hfx rfl hsp
    have hasg : (rec_ none .ready).assign = assign := by rw [hrec]
    have hbdy : (rec_ none .ready).body = body := by rw [hrec]
    rw [hasg, hbdy]
    refine wpIn_mono hrun ?_
    rintro e a1 w2 ⟨s1, L1, Ds1, g1, g2, g3, g4⟩
    cases e with
    | normal =>
     have g3' : SepL ((L1 ++ Ds1.map bx) ++ (er l (rec_ none .ready) :: Z)) w2 := by unfold Sp at g3; simpa only [List.append_assoc] using g3
     have hk2 := jE g3'
     have hbusy := mE (r' := { rec_ none .ready with state := .busy }) g3'
     refine ⟨_, run_beginRound hk2 (by rw [hrec]), ?_⟩
     have hb2 : Sp (Ds1.map bx ++ (er l { rec_ none .ready with state := .busy } :: Z)) L1 (w2.putObj l (.loop { rec_ none .ready with state := .busy })) := by unfold Sp; simpa only [List.append_assoc] using hbusy
     refine wpIn_mono (g4 (er l { rec_ none .ready with state := .busy } :: Z) Ds1 a1 _ g1 g2 hb2) ?_
     rintro e3 a3 w3 ⟨s3, L3, Ds3, k1, k2, k3, k4, k5⟩
     have k3' : SepL ((L3 ++ Ds3.map bx) ++ (er l { rec_ none .ready with state := .busy } :: Z)) w3 := by unfold Sp at k3; simpa only [List.append_assoc] using k3
     have hk3 := jE k3'
     have fin : ∀ (j : Option Exit) (jump : Option Code), jump = j.bind la → jump.isNone = j.isNone → j₂ = j → ∃ v w', (Instr.endRound l jump).run P w3 = .ok v w' ∧ (Ending.returned v = .returned (.bool j₂.isNone) ∧ Sp Z (er l (rec_ j₂ (stOf j₂)) :: E σ₂) w') := by
      intro j jump hj1 hj2 hj3
      subst hj3
      refine ⟨_, _, run_endRound jump hk3, by rw [hj2], ?_⟩
      have e : ({ { rec_ none .ready with state := .busy } with state := if jump.isNone then LoopState.ready else LoopState.done, pending := jump } : Loop) = rec_ j₂ (stOf j₂) := by
       rw [hrec, hst, hj2, hj1]
      rw [e]
      have h6 := mE (r' := rec_ j₂ (stOf j₂)) k3'
      have h7 : SepL (L3 ++ (er l (rec_ j₂ (stOf j₂)) :: Z)) (w3.putObj l (.loop (rec_ j₂ (stOf j₂)))) := by
       have h8 : SepL (Ds3.map bx ++ (L3 ++ (er l (rec_ j₂ (stOf j₂)) :: Z))) (w3.putObj l (.loop (rec_ j₂ (stOf j₂)))) := h6.perm (by
        rw [← List.append_assoc]
        exact List.Perm.append_right _ List.perm_append_comm)
       exact h8.dropL
      have h9 := k5 (er l (rec_ j₂ (stOf j₂)) :: Z) _ h7
      unfold Sp at h9 ⊢
      exact h9.perm List.perm_middle
     rcases k4 with ⟨h10, rfl⟩ | ⟨h10, h11⟩
     ·exact fin none none rfl rfl h10
     cases e3 with
     | ret => exact fin (some .ret) (some .ret) rfl rfl h10
     | exit i => exact fin (some (.exit i)) (some (.exit i)) rfl rfl h10
     | _ => cases h11
    | _ => exact g4.elim
 have hdeep : SepL (er l (rec_ none .ready) :: bx w.heap.size :: ((pre ++ E σ₀) ++ (Ds.map bx ++ H))) W1 := by
  have h1 : SepL ((pre ++ E σ₀) ++ (Ds.map bx ++ H)) w := hL _ _ hw
  have h2 : SepL (bx w.heap.size :: ((pre ++ E σ₀) ++ (Ds.map bx ++ H))) (w.alloc (.deferred (some []))) := h1.new (Agr.of_ext ((Ext.refl w).alloc _)) fun _ S _ => ⟨(· = w.heap.size), fun q hq => by subst hq; simp, rfl, World.alloc_heap_new w _⟩
  rw [← hW1]
  refine h2.new (Agr.of_ext ((Ext.refl _).alloc _)) fun _ S _ => ⟨(· = l), fun q hq => by subst hq; rw [hl]; simp, rfl, ?_⟩
  have := World.alloc_heap_new (w.alloc (.deferred (some []))) (.loop (rec_ none .ready))
  rw [World.size_alloc] at this
  rw [hl]
  exact this
 have hstn : stOf none = .ready := by rw [hst]; rfl
 have hstart : Sp (bx w.heap.size :: (Ds.map bx ++ H)) (pre ++ (er l (rec_ none (stOf none)) :: E σ₀)) W1 := by
  rw [hstn]
  refine hdeep.perm ?_
  refine (List.Perm.swap _ _ _).trans ?_
  refine List.Perm.trans ?_ List.perm_middle.symm
  refine List.Perm.cons _ ?_
  rw [← List.cons_append]
  exact List.Perm.append_right _ List.perm_middle.symm
 obtain ⟨fnc, hfn1, hb1, hn1⟩ := hf
 have hn' : ¬ fnc.name = "runtime.NumGoroutine" := by simpa using hn1
 have hb' : ¬ fnc.body = none := by intro h; rw [h] at hb1; cases hb1
 refine ⟨l, [{ target := .collected w.heap.size, args := #[] }], W1, { target := .fn (.func gf) caps, args := #[.func (.yield l) #[] #[]] }, W1, gf, (.func (.yield l) #[] #[] :: caps.toList).toArray, W1, ?_, ?_, fun _ _ => trivial, ?_, (by intro h; cases h), ?_⟩
 ·rw [← hW1, hl, hrec]; exact run_enterLoop_outer _ _ _ _ _
 ·simp only [resolve, hev]
  simp [Deferred.ofValue, Act.eval]
 ·simp [invoke, callFunc, hfn1, hb', hn', Sem.run_bind]
 have h1 := hit l _ hY _ W1 hstart
 refine (callsIn_wide.2 h1 : CallsIn Fence.wide (0 - 1) P gf _ W1 _).mono ?_
 rintro e w3 ⟨v, post, rfl, h2, rfl⟩
 have h2' : SepL ([] ++ (er l (rec_ je (stOf je)) :: (E σr ++ (bx w.heap.size :: (Ds.map bx ++ H))))) w3 := h2
 have hk := jE h2'
 refine ⟨_, _, run_endLoop hk (by rw [hrec, hst]; cases je <;> simp), ?_⟩
 have h3 := mE (r' := { rec_ je (stOf je) with state := .exhausted }) h2'
 generalize w3.putObj l (.loop { rec_ je (stOf je) with state := .exhausted }) = w4 at h3 ⊢
 have h4 : Sp ((w.heap.size :: Ds).map bx ++ H) (E σr) w4 := by
  have h5 : SepL ([er l { rec_ je (stOf je) with state := .exhausted }] ++ (E σr ++ (bx w.heap.size :: (Ds.map bx ++ H)))) _ := h3
  have h6 := h5.dropL
  unfold Sp
  simpa using h6
 have hfin : ∀ e, K e s (E σr) → mY ⟨P, n, none⟩ H K e { a with defers := [{ target := .collected w.heap.size, args := #[] }] ++ a.defers } w4 := fun e he => ⟨s, E σr, w.heap.size :: Ds, ⟨ha.size, ha.at_⟩, by simp [hds, lq], h4, he⟩
 cases hje : je with
 | none =>
  have : (rec_ je (stOf je)).pending = none := by rw [hrec, hje]; rfl
  rw [← hje, this]
  exact hfin .normal (hdone hje)
 | some e =>
  obtain ⟨h7, h8⟩ := hleft e hje
  have : (rec_ je (stOf je)).pending = la e := by rw [hrec, hje]; rfl
  rw [← hje, this]
  cases e with
  | ret => exact wpIn_ret (hfin .ret h8)
  | exit i => exact wpIn_exit (hfin (.exit i) h8)
  | _ => cases h7
theorem sV {α σ ι ρ : Type} {X : Cx} {K : K3} {s : bu} {g : Operand} {ps : List Nat} {assign body : Code} {gf : FuncId} {caps : Array Value} {R : α → List Value → List Chunk → Prop} (φ : α → σ → Option (Option Exit × σ)) (Q : σ → ι → List Chunk) (pre : List Chunk) (σ₀ : σ) (x₀ : ι) {je : Option Exit} {σr : σ} {L : List Chunk} {id : Nat} {vn vr : Option ρ} {vx : Nat → Option ρ} {v : ρ}
  (hr : X.r = none) (hg : bC s g = some (.func (.func gf) #[] caps)) (hf : au X.P gf) (hps : ps.all (fun p => Nat.ble (p + 1) X.n) = true) (hen : ∀ x vs cs, R x vs cs → vs.length = ps.length)
  (hit : ∀ l (G : (Option Exit × σ) → List Chunk), ky X.P l G R (cm φ) → Okc X.P gf (.func (.yield l) #[] #[] :: caps.toList) (pre ++ G (none, σ₀)) fun _ post => post = G (je, σr))
  (hL : Cv L (pre ++ Q σ₀ x₀)) (h : oW je vn vr vx = some v)
  (hbody : ∀ l x σ₁ je' σ₂ z, φ x σ₁ = some (je', σ₂) → ∀ vs cs, R x vs cs → Wq ⟨X.P, X.n, some l⟩ assign (nx (fun s1 L1 => Wq ⟨X.P, X.n, some l⟩ body (RK je' [ec (Q σ₂)]) s1 L1) fun _ _ _ => False) (qn ps vs s) (cs ++ Q σ₁ z))
  (hn : ∀ z, vn = some v → bk id K .normal s (Q σr z)) (hret : ∀ z, vr = some v → bk id K .ret s (Q σr z)) (hx : ∀ i z, vx i = some v → bk id K (.exit i) s (Q σr z)) :
  Wq X (.block id (.rangeFunc g ps.toArray assign body)) K s L := by
 refine ep (xD (K' := fun e s' L' => s' = s ∧ L' = [ec (Q σr)] ∧ ∀ z, bk id K e s (Q σr z)) ?_ ?_)
 ·refine yp φ (fun q => [ec (Q q)]) pre σ₀ hr hg hf hps hen hit ?_ ?_ ?_ ?_
  ·exact hL.trans (js pre (dq x₀ rfl))
  ·intro l x σ₁ je' σ₂ hφ vs cs hq
   exact yo cs fun z => hbody l x σ₁ je' σ₂ z hφ vs cs hq
  ·intro hj
   rw [hj] at h
   exact ⟨rfl, rfl, fun z => hn z h⟩
  intro e he
  rw [he] at h
  cases e with
  | ret => exact ⟨rfl, rfl, rfl, fun z => hret z h⟩
  | exit i => exact ⟨rfl, rfl, rfl, fun z => hx i z h⟩
  | _ => cases h
 rintro e s' L' ⟨rfl, rfl, h3⟩
 exact ⟨ι, Q σr, rfl, h3⟩
theorem SlR.recap {α : Type} {R : Rep α} {S : Nat → Prop} {w : World} {A1 A2 : Option Addr} {n1 n2 c1 c2 : Nat} {ys : List α} (h : SlR R S w (.slice A1 n1 c1) ys) (hn : n2 = ys.length) (hA : 0 < ys.length → A2 = A1) (h1 : ys.length ≤ c2) (h2 : c2 ≤ 9223372036854775807) : SlR R S w (.slice A2 n2 c2) ys := by
 obtain ⟨A, c, e, g1, g2, g3⟩ := h
 injection e with e1 e2 e3
 subst e1 e3 hn
 exact ⟨_, _, rfl, h1, h2, fun h0 => by rw [hA h0]; exact g3 h0⟩
theorem wk {α : Type} {R : Rep α} {L Z : List Chunk} {w : World} {A : Option Addr} {n c : Nat} {xs : List α} (hw : Sp Z L w) {i : Nat} (hi : L[i]? = some (kE R (.slice A n c) xs)) {l h : Nat} (h1 : l ≤ h) (h2 : h ≤ xs.length) : Sp Z (kE R (.slice (jW A h l R.sz) (h - l) (h - l)) ((xs.drop l).take (h - l)) :: L) w := by
 obtain ⟨T, S, hT⟩ := hw
 have hs1 : SlR R S w (.slice A n c) xs := hT.ok (bA hi)
 have hl : ((xs.drop l).take (h - l)).length = h - l := by rw [List.length_take, List.length_drop]; omega
 have hb := hs1
 obtain ⟨A2, c2, e2, g1, g2, -⟩ := hb
 injection e2 with q1 q2 q3
 subst q1 q2 q3
 obtain ⟨T', h'⟩ := SepL.facts [kE R (.slice (jW A h l R.sz) (h - l) (h - l)) ((xs.drop l).take (h - l))] hT (fun c hc => by
  simp only [List.mem_singleton] at hc
  subst hc
  refine SlR.recap (hs1.cut l h h1 h2) hl.symm (fun h0 => ?_) (by omega) (by omega)
  rw [hl] at h0
  unfold jW
  rw [if_neg (by omega), if_neg (by omega)])
 exact ⟨T', S, h'⟩
theorem Al {α : Type} {R : Rep α} {X : Cx} {ops : Array Oper} {K : K3} {s : bu} {L : List Chunk} {ol : List Oper} {A : Option Addr} {n c : Nat} {xs : List α} (i : Nat) (hi : L[i]? = some (kE R (.slice A n c) xs)) {l h : Nat} (h1 : l ≤ h) (h2 : h ≤ xs.length) (k : ∀ A' n' c', A' = jW A h l R.sz ∧ n' = h - l ∧ c' = h - l → cj X ops ol K s (kE R (.slice A' n' c') ((xs.drop l).take (h - l)) :: L)) : cj X ops ol K s L := fun H Ds a w ha hd hw => k _ _ _ ⟨rfl, rfl, rfl⟩ H Ds a w ha hd (wk hw hi h1 h2)
section
variable {P : Program} {s : bu} {L : List Chunk} {d : Option Nat} {ty : TypeId} {pos : String} {af : Array Edge} {gd : Option (Nat × Bool)}
theorem AW {C : World → Prop} {t e sz : Nat} {x o y z : Operand} {A : Option Addr} {n c : Nat} {l h : Nat} (hx : bC s x = some (.slice A n c)) (hu : P.underlying t = some (.slice e)) (hs : dV P e sz = true) (hl : bC s o = some (.int .i64 (l : Int))) (hh : bC s y = some (.int .i64 (h : Int))) (hm : bC s z = some (.int .i64 (h : Int))) (h1 : l ≤ h) (h2 : h ≤ c) : Ev P s C ⟨d, .slice t x (some o) (some y) (some z), ty, pos, af, gd⟩ (.slice (jW A h l sz) (h - l) (h - l)) := fun ρ hρ w _ => by
 unfold execOp
 simp only [Option.map_some, Option.map_none, hρ x _ hx, hρ o _ hl, hρ y _ hh, hρ z _ hm, Instr.sliceAt, Instr.slice, Instr.sliceBounds, Sem.run_bind, run_underlying hu, Result.andThen_ok, o8 h2, o8 h1, o8 (Nat.le_refl h), fS hs w, Sem.run_pure]
 rfl
theorem wP {α : Type} {R : Rep α} {t e sz : Nat} {x o y z : Operand} {A A' : Option Addr} {n c n' c' : Nat} {xs : List α} {l h : Nat} (i : Nat) (hL : L[i]? = some (kE R (.slice A n c) xs)) (he : A' = jW A h l R.sz ∧ n' = h - l ∧ c' = h - l) (hx : bC s x = some (.slice A n c)) (hu : P.underlying t = some (.slice e)) (hs : dV P e sz = true) (hsz : R.sz = sz)
  (hl : bC s o = some (.int .i64 (l : Int))) (hh : bC s y = some (.int .i64 (h : Int))) (hm : bC s z = some (.int .i64 (h : Int))) (h1 : l ≤ h) (h2 : h ≤ xs.length) : Rd P s L ⟨d, .slice t x (some o) (some y) (some z), ty, pos, af, gd⟩ (.slice A' n' c') := fun Z w hw => by
 obtain ⟨rfl, rfl, rfl⟩ := he
 subst hsz
 obtain ⟨T, S, A2, c2, e2, g1, -⟩ := hw.get (bA hL)
 injection e2 with q1 q2 q3
 subst q1 q2 q3
 exact AW hx hu hs hl hh hm h1 (by omega)
end
end Go.Proofs.Ytmbaennilhdieaa
namespace Go.Proofs.Ytmbaennilhdieaa
open Go.RowKit
section
variable {α β : Type} [DecidableEq α] {ek : α → Value} {ev : β → Value}
def Er (w : World) (m : Nat) (ek : α → Value) (ev : β → Value) (kv : List (α × β)) (a : α) (s : Nat) : Prop :=
 ∃ es clk, w.heap[m]? = some (.map es clk) ∧ es.toList.map (fun e => (e.key, e.val)) = kv.map (fun p => (ek p.1, ev p.2)) ∧ es.toList.Pairwise (fun a b => a.born < b.born) ∧ (∀ e ∈ es.toList, e.born < clk) ∧ ∃ q e b, es[q]? = some e ∧ e.born = s ∧ e.key = ek a ∧ fp a kv 0 = some (q, b)
def D2 (kv : List (α × β)) (a : α) (z : β) : List (α × β) := match fp a kv 0 with
 | some _ => kv
 | none => kv ++ [(a, z)]
variable {P : Program} {s : bu} {L : List Chunk} {d : Option Nat} {ty t kt et : TypeId} {pos : String} {af : Array Edge} {gd : Option (Nat × Bool)}
end
end Go.Proofs.Ytmbaennilhdieaa
namespace Go.Proofs.Ytmbaennilhdieaa
open Go.RowKit
theorem vd {L : List Chunk} : ∀ (cs : List Chunk), Cv (cs ++ L) L
 | [] => ac _
 | _ :: cs => cv_tl.trans (vd cs)
inductive Asn : Type 1
 | aV (v : Value)
 | aX1 {ι0 : Type} (v : ι0 → Value) (ch : ι0 → List Chunk)
 | aX2 {ι0 ι1 : Type} (v : ι0 → ι1 → Value) (ch : ι0 → ι1 → List Chunk)
 | aX3 {ι0 ι1 ι2 : Type} (v : ι0 → ι1 → ι2 → Value) (ch : ι0 → ι1 → ι2 → List Chunk)
 | aX4 {ι0 ι1 ι2 ι3 : Type} (v : ι0 → ι1 → ι2 → ι3 → Value) (ch : ι0 → ι1 → ι2 → ι3 → List Chunk)
 | aX5 {ι0 ι1 ι2 ι3 ι4 : Type} (v : ι0 → ι1 → ι2 → ι3 → ι4 → Value) (ch : ι0 → ι1 → ι2 → ι3 → ι4 → List Chunk)
 | aX6 {ι0 ι1 ι2 ι3 ι4 ι5 : Type} (v : ι0 → ι1 → ι2 → ι3 → ι4 → ι5 → Value) (ch : ι0 → ι1 → ι2 → ι3 → ι4 → ι5 → List Chunk)
 | aX7 {ι0 ι1 ι2 ι3 ι4 ι5 ι6 : Type} (v : ι0 → ι1 → ι2 → ι3 → ι4 → ι5 → ι6 → Value) (ch : ι0 → ι1 → ι2 → ι3 → ι4 → ι5 → ι6 → List Chunk)
 | aX8 {ι0 ι1 ι2 ι3 ι4 ι5 ι6 ι7 : Type} (v : ι0 → ι1 → ι2 → ι3 → ι4 → ι5 → ι6 → ι7 → Value) (ch : ι0 → ι1 → ι2 → ι3 → ι4 → ι5 → ι6 → ι7 → List Chunk)
 | aX9 {ι0 ι1 ι2 ι3 ι4 ι5 ι6 ι7 ι8 : Type} (v : ι0 → ι1 → ι2 → ι3 → ι4 → ι5 → ι6 → ι7 → ι8 → Value) (ch : ι0 → ι1 → ι2 → ι3 → ι4 → ι5 → ι6 → ι7 → ι8 → List Chunk)
 | aX10 {ι0 ι1 ι2 ι3 ι4 ι5 ι6 ι7 ι8 ι9 : Type} (v : ι0 → ι1 → ι2 → ι3 → ι4 → ι5 → ι6 → ι7 → ι8 → ι9 → Value) (ch : ι0 → ι1 → ι2 → ι3 → ι4 → ι5 → ι6 → ι7 → ι8 → ι9 → List Chunk)
 | aX11 {ι0 ι1 ι2 ι3 ι4 ι5 ι6 ι7 ι8 ι9 ι10 : Type} (v : ι0 → ι1 → ι2 → ι3 → ι4 → ι5 → ι6 → ι7 → ι8 → ι9 → ι10 → Value) (ch : ι0 → ι1 → ι2 → ι3 → ι4 → ι5 → ι6 → ι7 → ι8 → ι9 → ι10 → List Chunk)
 | aX12 {ι0 ι1 ι2 ι3 ι4 ι5 ι6 ι7 ι8 ι9 ι10 ι11 : Type} (v : ι0 → ι1 → ι2 → ι3 → ι4 → ι5 → ι6 → ι7 → ι8 → ι9 → ι10 → ι11 → Value) (ch : ι0 → ι1 → ι2 → ι3 → ι4 → ι5 → ι6 → ι7 → ι8 → ι9 → ι10 → ι11 → List Chunk)
namespace Asn
def full : Asn → Value → List Chunk
 | aV v, u => [yR (u = v)]
 | @aX1 ι0 v ch, u => [ec fun x : {x : ι0 // u = v x} => ch x.1]
 | @aX2 ι0 ι1 v ch, u => [ec fun x : {x : ι0 × ι1 // u = v x.1 x.2} => ch x.1.1 x.1.2]
 | @aX3 ι0 ι1 ι2 v ch, u => [ec fun x : {x : ι0 × ι1 × ι2 // u = v x.1 x.2.1 x.2.2} => ch x.1.1 x.1.2.1 x.1.2.2]
 | @aX4 ι0 ι1 ι2 ι3 v ch, u => [ec fun x : {x : ι0 × ι1 × ι2 × ι3 // u = v x.1 x.2.1 x.2.2.1 x.2.2.2} => ch x.1.1 x.1.2.1 x.1.2.2.1 x.1.2.2.2]
 | @aX5 ι0 ι1 ι2 ι3 ι4 v ch, u => [ec fun x : {x : ι0 × ι1 × ι2 × ι3 × ι4 // u = v x.1 x.2.1 x.2.2.1 x.2.2.2.1 x.2.2.2.2} => ch x.1.1 x.1.2.1 x.1.2.2.1 x.1.2.2.2.1 x.1.2.2.2.2]
 | @aX6 ι0 ι1 ι2 ι3 ι4 ι5 v ch, u => [ec fun x : {x : ι0 × ι1 × ι2 × ι3 × ι4 × ι5 // u = v x.1 x.2.1 x.2.2.1 x.2.2.2.1 x.2.2.2.2.1 x.2.2.2.2.2} => ch x.1.1 x.1.2.1 x.1.2.2.1 x.1.2.2.2.1 x.1.2.2.2.2.1 x.1.2.2.2.2.2]
 | @aX7 ι0 ι1 ι2 ι3 ι4 ι5 ι6 v ch, u => [ec fun x : {x : ι0 × ι1 × ι2 × ι3 × ι4 × ι5 × ι6 // u = v x.1 x.2.1 x.2.2.1 x.2.2.2.1 x.2.2.2.2.1 x.2.2.2.2.2.1 x.2.2.2.2.2.2} => ch x.1.1 x.1.2.1 x.1.2.2.1 x.1.2.2.2.1 x.1.2.2.2.2.1 x.1.2.2.2.2.2.1 x.1.2.2.2.2.2.2]
 | @aX8 ι0 ι1 ι2 ι3 ι4 ι5 ι6 ι7 v ch, u => [ec fun x : {x : ι0 × ι1 × ι2 × ι3 × ι4 × ι5 × ι6 × ι7 // u = v x.1 x.2.1 x.2.2.1 x.2.2.2.1 x.2.2.2.2.1 x.2.2.2.2.2.1 x.2.2.2.2.2.2.1 x.2.2.2.2.2.2.2} => ch x.1.1 x.1.2.1 x.1.2.2.1 x.1.2.2.2.1 x.1.2.2.2.2.1 x.1.2.2.2.2.2.1 x.1.2.2.2.2.2.2.1 x.1.2.2.2.2.2.2.2]
 | @aX9 ι0 ι1 ι2 ι3 ι4 ι5 ι6 ι7 ι8 v ch, u => [ec fun x : {x : ι0 × ι1 × ι2 × ι3 × ι4 × ι5 × ι6 × ι7 × ι8 // u = v x.1 x.2.1 x.2.2.1 x.2.2.2.1 x.2.2.2.2.1 x.2.2.2.2.2.1 x.2.2.2.2.2.2.1 x.2.2.2.2.2.2.2.1 x.2.2.2.2.2.2.2.2} => ch x.1.1 x.1.2.1 x.1.2.2.1 x.1.2.2.2.1 x.1.2.2.2.2.1 x.1.2.2.2.2.2.1 x.1.2.2.2.2.2.2.1 x.1.2.2.2.2.2.2.2.1 x.1.2.2.2.2.2.2.2.2]
 | @aX10 ι0 ι1 ι2 ι3 ι4 ι5 ι6 ι7 ι8 ι9 v ch, u => [ec fun x : {x : ι0 × ι1 × ι2 × ι3 × ι4 × ι5 × ι6 × ι7 × ι8 × ι9 // u = v x.1 x.2.1 x.2.2.1 x.2.2.2.1 x.2.2.2.2.1 x.2.2.2.2.2.1 x.2.2.2.2.2.2.1 x.2.2.2.2.2.2.2.1 x.2.2.2.2.2.2.2.2.1 x.2.2.2.2.2.2.2.2.2} => ch x.1.1 x.1.2.1 x.1.2.2.1 x.1.2.2.2.1 x.1.2.2.2.2.1 x.1.2.2.2.2.2.1 x.1.2.2.2.2.2.2.1 x.1.2.2.2.2.2.2.2.1 x.1.2.2.2.2.2.2.2.2.1 x.1.2.2.2.2.2.2.2.2.2]
 | @aX11 ι0 ι1 ι2 ι3 ι4 ι5 ι6 ι7 ι8 ι9 ι10 v ch, u => [ec fun x : {x : ι0 × ι1 × ι2 × ι3 × ι4 × ι5 × ι6 × ι7 × ι8 × ι9 × ι10 // u = v x.1 x.2.1 x.2.2.1 x.2.2.2.1 x.2.2.2.2.1 x.2.2.2.2.2.1 x.2.2.2.2.2.2.1 x.2.2.2.2.2.2.2.1 x.2.2.2.2.2.2.2.2.1 x.2.2.2.2.2.2.2.2.2.1 x.2.2.2.2.2.2.2.2.2.2} => ch x.1.1 x.1.2.1 x.1.2.2.1 x.1.2.2.2.1 x.1.2.2.2.2.1 x.1.2.2.2.2.2.1 x.1.2.2.2.2.2.2.1 x.1.2.2.2.2.2.2.2.1 x.1.2.2.2.2.2.2.2.2.1 x.1.2.2.2.2.2.2.2.2.2.1 x.1.2.2.2.2.2.2.2.2.2.2]
 | @aX12 ι0 ι1 ι2 ι3 ι4 ι5 ι6 ι7 ι8 ι9 ι10 ι11 v ch, u => [ec fun x : {x : ι0 × ι1 × ι2 × ι3 × ι4 × ι5 × ι6 × ι7 × ι8 × ι9 × ι10 × ι11 // u = v x.1 x.2.1 x.2.2.1 x.2.2.2.1 x.2.2.2.2.1 x.2.2.2.2.2.1 x.2.2.2.2.2.2.1 x.2.2.2.2.2.2.2.1 x.2.2.2.2.2.2.2.2.1 x.2.2.2.2.2.2.2.2.2.1 x.2.2.2.2.2.2.2.2.2.2.1 x.2.2.2.2.2.2.2.2.2.2.2} => ch x.1.1 x.1.2.1 x.1.2.2.1 x.1.2.2.2.1 x.1.2.2.2.2.1 x.1.2.2.2.2.2.1 x.1.2.2.2.2.2.2.1 x.1.2.2.2.2.2.2.2.1 x.1.2.2.2.2.2.2.2.2.1 x.1.2.2.2.2.2.2.2.2.2.1 x.1.2.2.2.2.2.2.2.2.2.2.1 x.1.2.2.2.2.2.2.2.2.2.2.2]
def Op : Asn → (Value → List Chunk → Prop) → Prop
 | aV v, K => K v []
 | aX1 v ch, K => ∀ x0, K (v x0) (ch x0)
 | aX2 v ch, K => ∀ x0 x1, K (v x0 x1) (ch x0 x1)
 | aX3 v ch, K => ∀ x0 x1 x2, K (v x0 x1 x2) (ch x0 x1 x2)
 | aX4 v ch, K => ∀ x0 x1 x2 x3, K (v x0 x1 x2 x3) (ch x0 x1 x2 x3)
 | aX5 v ch, K => ∀ x0 x1 x2 x3 x4, K (v x0 x1 x2 x3 x4) (ch x0 x1 x2 x3 x4)
 | aX6 v ch, K => ∀ x0 x1 x2 x3 x4 x5, K (v x0 x1 x2 x3 x4 x5) (ch x0 x1 x2 x3 x4 x5)
 | aX7 v ch, K => ∀ x0 x1 x2 x3 x4 x5 x6, K (v x0 x1 x2 x3 x4 x5 x6) (ch x0 x1 x2 x3 x4 x5 x6)
 | aX8 v ch, K => ∀ x0 x1 x2 x3 x4 x5 x6 x7, K (v x0 x1 x2 x3 x4 x5 x6 x7) (ch x0 x1 x2 x3 x4 x5 x6 x7)
 | aX9 v ch, K => ∀ x0 x1 x2 x3 x4 x5 x6 x7 x8, K (v x0 x1 x2 x3 x4 x5 x6 x7 x8) (ch x0 x1 x2 x3 x4 x5 x6 x7 x8)
 | aX10 v ch, K => ∀ x0 x1 x2 x3 x4 x5 x6 x7 x8 x9, K (v x0 x1 x2 x3 x4 x5 x6 x7 x8 x9) (ch x0 x1 x2 x3 x4 x5 x6 x7 x8 x9)
 | aX11 v ch, K => ∀ x0 x1 x2 x3 x4 x5 x6 x7 x8 x9 x10, K (v x0 x1 x2 x3 x4 x5 x6 x7 x8 x9 x10) (ch x0 x1 x2 x3 x4 x5 x6 x7 x8 x9 x10)
 | aX12 v ch, K => ∀ x0 x1 x2 x3 x4 x5 x6 x7 x8 x9 x10 x11, K (v x0 x1 x2 x3 x4 x5 x6 x7 x8 x9 x10 x11) (ch x0 x1 x2 x3 x4 x5 x6 x7 x8 x9 x10 x11)
theorem hop : ∀ (a : Asn) (K : Value → List Chunk → Prop) (u : Value) (L Z : List Chunk) (w : World), Sp Z (a.full u ++ L) w → a.Op K → ∃ c, K u c ∧ Sp Z (c ++ L) w ∧ ∀ L', Cv (c ++ L') (a.full u ++ L')
 | aV v, K, u, L, Z, w, hs, hk => by
  have h : u = v := At hs 0 rfl
  subst h
  exact ⟨[], hk, cv_tl _ _ hs, fun L' => xl rfl⟩
 | @aX1 ι0 v ch, K, u, L, Z, w, hs, hk => by
  obtain ⟨⟨x, hx⟩, hs⟩ := fL hs
  subst hx
  exact ⟨_, hk x, hs, fun L' => dK (Q := fun y : {y : ι0 // v x = v y} => ch y.1) ⟨x, rfl⟩⟩
 | @aX2 ι0 ι1 v ch, K, u, L, Z, w, hs, hk => by
  obtain ⟨⟨x, hx⟩, hs⟩ := fL hs
  subst hx
  exact ⟨_, hk x.1 x.2, hs, fun L' => dK (Q := fun y : {y : ι0 × ι1 // v x.1 x.2 = v y.1 y.2} => ch y.1.1 y.1.2) ⟨x, rfl⟩⟩
 | @aX3 ι0 ι1 ι2 v ch, K, u, L, Z, w, hs, hk => by
  obtain ⟨⟨x, hx⟩, hs⟩ := fL hs
  subst hx
  exact ⟨_, hk x.1 x.2.1 x.2.2, hs, fun L' => dK (Q := fun y : {y : ι0 × ι1 × ι2 // v x.1 x.2.1 x.2.2 = v y.1 y.2.1 y.2.2} => ch y.1.1 y.1.2.1 y.1.2.2) ⟨x, rfl⟩⟩
 | @aX4 ι0 ι1 ι2 ι3 v ch, K, u, L, Z, w, hs, hk => by
  obtain ⟨⟨x, hx⟩, hs⟩ := fL hs
  subst hx
  exact ⟨_, hk x.1 x.2.1 x.2.2.1 x.2.2.2, hs, fun L' => dK (Q := fun y : {y : ι0 × ι1 × ι2 × ι3 // v x.1 x.2.1 x.2.2.1 x.2.2.2 = v y.1 y.2.1 y.2.2.1 y.2.2.2} => ch y.1.1 y.1.2.1 y.1.2.2.1 y.1.2.2.2) ⟨x, rfl⟩⟩
 | @aX5 ι0 ι1 ι2 ι3 ι4 v ch, K, u, L, Z, w, hs, hk => by
  obtain ⟨⟨x, hx⟩, hs⟩ := fL hs
  subst hx
  exact ⟨_, hk x.1 x.2.1 x.2.2.1 x.2.2.2.1 x.2.2.2.2, hs, fun L' => dK (Q := fun y : {y : ι0 × ι1 × ι2 × ι3 × ι4 // v x.1 x.2.1 x.2.2.1 x.2.2.2.1 x.2.2.2.2 = v y.1 y.2.1 y.2.2.1 y.2.2.2.1 y.2.2.2.2} => ch y.1.1 y.1.2.1 y.1.2.2.1 y.1.2.2.2.1 y.1.2.2.2.2) ⟨x, rfl⟩⟩
 | @aX6 ι0 ι1 ι2 ι3 ι4 ι5 v ch, K, u, L, Z, w, hs, hk => by
  obtain ⟨⟨x, hx⟩, hs⟩ := fL hs
  subst hx
  exact ⟨_, hk x.1 x.2.1 x.2.2.1 x.2.2.2.1 x.2.2.2.2.1 x.2.2.2.2.2, hs, fun L' => dK (Q := fun y : {y : ι0 × ι1 × ι2 × ι3 × ι4 × ι5 // v x.1 x.2.1 x.2.2.1 x.2.2.2.1 x.2.2.2.2.1 x.2.2.2.2.2 = v y.1 y.2.1 y.2.2.1 y.2.2.2.1 y.2.2.2.2.1 y.2.2.2.2.2} => ch y.1.1 y.1.2.1 y.1.2.2.1 y.1.2.2.2.1 y.1.2.2.2.2.1 y.1.2.2.2.2.2) ⟨x, rfl⟩⟩
 | @aX7 ι0 ι1 ι2 ι3 ι4 ι5 ι6 v ch, K, u, L, Z, w, hs, hk => by
  obtain ⟨⟨x, hx⟩, hs⟩ := fL hs
  subst hx
  exact ⟨_, hk x.1 x.2.1 x.2.2.1 x.2.2.2.1 x.2.2.2.2.1 x.2.2.2.2.2.1 x.2.2.2.2.2.2, hs, fun L' => dK (Q := fun y : {y : ι0 × ι1 × ι2 × ι3 × ι4 × ι5 × ι6 // v x.1 x.2.1 x.2.2.1 x.2.2.2.1 x.2.2.2.2.1 x.2.2.2.2.2.1 x.2.2.2.2.2.2 = v y.1 y.2.1 y.2.2.1 y.2.2.2.1 y.2.2.2.2.1 y.2.2.2.2.2.1 y.2.2.2.2.2.2} => ch y.1.1 y.1.2.1 y.1.2.2.1 y.1.2.2.2.1 y.1.2.2.2.2.1 y.1.2.2.2.2.2.1 y.1.2.2.2.2.2.2) ⟨x, rfl⟩⟩
 | @aX8 ι0 ι1 ι2 ι3 ι4 ι5 ι6 ι7 v ch, K, u, L, Z, w, hs, hk => by
  obtain ⟨⟨x, hx⟩, hs⟩ := fL hs
  subst hx
  exact ⟨_, hk x.1 x.2.1 x.2.2.1 x.2.2.2.1 x.2.2.2.2.1 x.2.2.2.2.2.1 x.2.2.2.2.2.2.1 x.2.2.2.2.2.2.2, hs, fun L' => dK (Q := fun y : {y : ι0 × ι1 × ι2 × ι3 × ι4 × ι5 × ι6 × ι7 // v x.1 x.2.1 x.2.2.1 x.2.2.2.1 x.2.2.2.2.1 x.2.2.2.2.2.1 x.2.2.2.2.2.2.1 x.2.2.2.2.2.2.2 = v y.1 y.2.1 y.2.2.1 y.2.2.2.1 y.2.2.2.2.1 y.2.2.2.2.2.1 y.2.2.2.2.2.2.1 y.2.2.2.2.2.2.2} => ch y.1.1 y.1.2.1 y.1.2.2.1 y.1.2.2.2.1 y.1.2.2.2.2.1 y.1.2.2.2.2.2.1 y.1.2.2.2.2.2.2.1 y.1.2.2.2.2.2.2.2) ⟨x, rfl⟩⟩
 | @aX9 ι0 ι1 ι2 ι3 ι4 ι5 ι6 ι7 ι8 v ch, K, u, L, Z, w, hs, hk => by
  obtain ⟨⟨x, hx⟩, hs⟩ := fL hs
  subst hx
  exact ⟨_, hk x.1 x.2.1 x.2.2.1 x.2.2.2.1 x.2.2.2.2.1 x.2.2.2.2.2.1 x.2.2.2.2.2.2.1 x.2.2.2.2.2.2.2.1 x.2.2.2.2.2.2.2.2, hs, fun L' => dK (Q := fun y : {y : ι0 × ι1 × ι2 × ι3 × ι4 × ι5 × ι6 × ι7 × ι8 // v x.1 x.2.1 x.2.2.1 x.2.2.2.1 x.2.2.2.2.1 x.2.2.2.2.2.1 x.2.2.2.2.2.2.1 x.2.2.2.2.2.2.2.1 x.2.2.2.2.2.2.2.2 = v y.1 y.2.1 y.2.2.1 y.2.2.2.1 y.2.2.2.2.1 y.2.2.2.2.2.1 y.2.2.2.2.2.2.1 y.2.2.2.2.2.2.2.1 y.2.2.2.2.2.2.2.2} => ch y.1.1 y.1.2.1 y.1.2.2.1 y.1.2.2.2.1 y.1.2.2.2.2.1 y.1.2.2.2.2.2.1 y.1.2.2.2.2.2.2.1 y.1.2.2.2.2.2.2.2.1 y.1.2.2.2.2.2.2.2.2) ⟨x, rfl⟩⟩
 | @aX10 ι0 ι1 ι2 ι3 ι4 ι5 ι6 ι7 ι8 ι9 v ch, K, u, L, Z, w, hs, hk => by
  obtain ⟨⟨x, hx⟩, hs⟩ := fL hs
  subst hx
  exact ⟨_, hk x.1 x.2.1 x.2.2.1 x.2.2.2.1 x.2.2.2.2.1 x.2.2.2.2.2.1 x.2.2.2.2.2.2.1 x.2.2.2.2.2.2.2.1 x.2.2.2.2.2.2.2.2.1 x.2.2.2.2.2.2.2.2.2, hs, fun L' => dK (Q := fun y : {y : ι0 × ι1 × ι2 × ι3 × ι4 × ι5 × ι6 × ι7 × ι8 × ι9 // v x.1 x.2.1 x.2.2.1 x.2.2.2.1 x.2.2.2.2.1 x.2.2.2.2.2.1 x.2.2.2.2.2.2.1 x.2.2.2.2.2.2.2.1 x.2.2.2.2.2.2.2.2.1 x.2.2.2.2.2.2.2.2.2 = v y.1 y.2.1 y.2.2.1 y.2.2.2.1 y.2.2.2.2.1 y.2.2.2.2.2.1 y.2.2.2.2.2.2.1 y.2.2.2.2.2.2.2.1 y.2.2.2.2.2.2.2.2.1 y.2.2.2.2.2.2.2.2.2} => ch y.1.1 y.1.2.1 y.1.2.2.1 y.1.2.2.2.1 y.1.2.2.2.2.1 y.1.2.2.2.2.2.1 y.1.2.2.2.2.2.2.1 y.1.2.2.2.2.2.2.2.1 y.1.2.2.2.2.2.2.2.2.1 y.1.2.2.2.2.2.2.2.2.2) ⟨x, rfl⟩⟩
 | @aX11 ι0 ι1 ι2 ι3 ι4 ι5 ι6 ι7 ι8 ι9 ι10 v ch, K, u, L, Z, w, hs, hk => by
  obtain ⟨⟨x, hx⟩, hs⟩ := fL hs
  subst hx
  exact ⟨_, hk x.1 x.2.1 x.2.2.1 x.2.2.2.1 x.2.2.2.2.1 x.2.2.2.2.2.1 x.2.2.2.2.2.2.1 x.2.2.2.2.2.2.2.1 x.2.2.2.2.2.2.2.2.1 x.2.2.2.2.2.2.2.2.2.1 x.2.2.2.2.2.2.2.2.2.2, hs, fun L' => dK (Q := fun y : {y : ι0 × ι1 × ι2 × ι3 × ι4 × ι5 × ι6 × ι7 × ι8 × ι9 × ι10 // v x.1 x.2.1 x.2.2.1 x.2.2.2.1 x.2.2.2.2.1 x.2.2.2.2.2.1 x.2.2.2.2.2.2.1 x.2.2.2.2.2.2.2.1 x.2.2.2.2.2.2.2.2.1 x.2.2.2.2.2.2.2.2.2.1 x.2.2.2.2.2.2.2.2.2.2 = v y.1 y.2.1 y.2.2.1 y.2.2.2.1 y.2.2.2.2.1 y.2.2.2.2.2.1 y.2.2.2.2.2.2.1 y.2.2.2.2.2.2.2.1 y.2.2.2.2.2.2.2.2.1 y.2.2.2.2.2.2.2.2.2.1 y.2.2.2.2.2.2.2.2.2.2} => ch y.1.1 y.1.2.1 y.1.2.2.1 y.1.2.2.2.1 y.1.2.2.2.2.1 y.1.2.2.2.2.2.1 y.1.2.2.2.2.2.2.1 y.1.2.2.2.2.2.2.2.1 y.1.2.2.2.2.2.2.2.2.1 y.1.2.2.2.2.2.2.2.2.2.1 y.1.2.2.2.2.2.2.2.2.2.2) ⟨x, rfl⟩⟩
 | @aX12 ι0 ι1 ι2 ι3 ι4 ι5 ι6 ι7 ι8 ι9 ι10 ι11 v ch, K, u, L, Z, w, hs, hk => by
  obtain ⟨⟨x, hx⟩, hs⟩ := fL hs
  subst hx
  exact ⟨_, hk x.1 x.2.1 x.2.2.1 x.2.2.2.1 x.2.2.2.2.1 x.2.2.2.2.2.1 x.2.2.2.2.2.2.1 x.2.2.2.2.2.2.2.1 x.2.2.2.2.2.2.2.2.1 x.2.2.2.2.2.2.2.2.2.1 x.2.2.2.2.2.2.2.2.2.2.1 x.2.2.2.2.2.2.2.2.2.2.2, hs, fun L' => dK (Q := fun y : {y : ι0 × ι1 × ι2 × ι3 × ι4 × ι5 × ι6 × ι7 × ι8 × ι9 × ι10 × ι11 // v x.1 x.2.1 x.2.2.1 x.2.2.2.1 x.2.2.2.2.1 x.2.2.2.2.2.1 x.2.2.2.2.2.2.1 x.2.2.2.2.2.2.2.1 x.2.2.2.2.2.2.2.2.1 x.2.2.2.2.2.2.2.2.2.1 x.2.2.2.2.2.2.2.2.2.2.1 x.2.2.2.2.2.2.2.2.2.2.2 = v y.1 y.2.1 y.2.2.1 y.2.2.2.1 y.2.2.2.2.1 y.2.2.2.2.2.1 y.2.2.2.2.2.2.1 y.2.2.2.2.2.2.2.1 y.2.2.2.2.2.2.2.2.1 y.2.2.2.2.2.2.2.2.2.1 y.2.2.2.2.2.2.2.2.2.2.1 y.2.2.2.2.2.2.2.2.2.2.2} => ch y.1.1 y.1.2.1 y.1.2.2.1 y.1.2.2.2.1 y.1.2.2.2.2.1 y.1.2.2.2.2.2.1 y.1.2.2.2.2.2.2.1 y.1.2.2.2.2.2.2.2.1 y.1.2.2.2.2.2.2.2.2.1 y.1.2.2.2.2.2.2.2.2.2.1 y.1.2.2.2.2.2.2.2.2.2.2.1 y.1.2.2.2.2.2.2.2.2.2.2.2) ⟨x, rfl⟩⟩
end Asn
open Asn
theorem aD {u v : Value} {L L0 : List Chunk} (hp : u = v) (h : Cv L L0) : Cv L ((Asn.aV v).full u ++ L0) := h.trans (xl hp)
theorem Co {ι0 : Type} {v : ι0 → Value} {ch : ι0 → List Chunk} {L L0 : List Chunk} (x0 : ι0) (h : Cv L (ch x0 ++ L0)) : Cv L ((Asn.aX1 v ch).full (v x0) ++ L0) := h.trans (dK (Q := fun y : {y : ι0 // v x0 = v y} => ch y.1) ⟨x0, rfl⟩)
theorem ig {ι0 ι1 ι2 : Type} {v : ι0 → ι1 → ι2 → Value} {ch : ι0 → ι1 → ι2 → List Chunk} {L L0 : List Chunk} (x0 : ι0) (x1 : ι1) (x2 : ι2) (h : Cv L (ch x0 x1 x2 ++ L0)) : Cv L ((Asn.aX3 v ch).full (v x0 x1 x2) ++ L0) := h.trans (dK (Q := fun y : {y : ι0 × ι1 × ι2 // v x0 x1 x2 = v y.1 y.2.1 y.2.2} => ch y.1.1 y.1.2.1 y.1.2.2) ⟨(x0, x1, x2), rfl⟩)
theorem zA {ι0 ι1 ι2 ι3 ι4 ι5 : Type} {v : ι0 → ι1 → ι2 → ι3 → ι4 → ι5 → Value} {ch : ι0 → ι1 → ι2 → ι3 → ι4 → ι5 → List Chunk} {L L0 : List Chunk} (x0 : ι0) (x1 : ι1) (x2 : ι2) (x3 : ι3) (x4 : ι4) (x5 : ι5) (h : Cv L (ch x0 x1 x2 x3 x4 x5 ++ L0)) : Cv L ((Asn.aX6 v ch).full (v x0 x1 x2 x3 x4 x5) ++ L0) := h.trans (dK (Q := fun y : {y : ι0 × ι1 × ι2 × ι3 × ι4 × ι5 // v x0 x1 x2 x3 x4 x5 = v y.1 y.2.1 y.2.2.1 y.2.2.2.1 y.2.2.2.2.1 y.2.2.2.2.2} => ch y.1.1 y.1.2.1 y.1.2.2.1 y.1.2.2.2.1 y.1.2.2.2.2.1 y.1.2.2.2.2.2) ⟨(x0, x1, x2, x3, x4, x5), rfl⟩)
theorem xj {ι0 ι1 ι2 ι3 ι4 ι5 ι6 ι7 ι8 ι9 ι10 ι11 : Type} {v : ι0 → ι1 → ι2 → ι3 → ι4 → ι5 → ι6 → ι7 → ι8 → ι9 → ι10 → ι11 → Value} {ch : ι0 → ι1 → ι2 → ι3 → ι4 → ι5 → ι6 → ι7 → ι8 → ι9 → ι10 → ι11 → List Chunk} {L L0 : List Chunk} (x0 : ι0) (x1 : ι1) (x2 : ι2) (x3 : ι3) (x4 : ι4) (x5 : ι5) (x6 : ι6) (x7 : ι7) (x8 : ι8) (x9 : ι9) (x10 : ι10) (x11 : ι11) (h : Cv L (ch x0 x1 x2 x3 x4 x5 x6 x7 x8 x9 x10 x11 ++ L0)) : Cv L ((Asn.aX12 v ch).full (v x0 x1 x2 x3 x4 x5 x6 x7 x8 x9 x10 x11) ++ L0) := h.trans (dK (Q := fun y : {y : ι0 × ι1 × ι2 × ι3 × ι4 × ι5 × ι6 × ι7 × ι8 × ι9 × ι10 × ι11 // v x0 x1 x2 x3 x4 x5 x6 x7 x8 x9 x10 x11 = v y.1 y.2.1 y.2.2.1 y.2.2.2.1 y.2.2.2.2.1 y.2.2.2.2.2.1 y.2.2.2.2.2.2.1 y.2.2.2.2.2.2.2.1 y.2.2.2.2.2.2.2.2.1 y.2.2.2.2.2.2.2.2.2.1 y.2.2.2.2.2.2.2.2.2.2.1 y.2.2.2.2.2.2.2.2.2.2.2} => ch y.1.1 y.1.2.1 y.1.2.2.1 y.1.2.2.2.1 y.1.2.2.2.2.1 y.1.2.2.2.2.2.1 y.1.2.2.2.2.2.2.1 y.1.2.2.2.2.2.2.2.1 y.1.2.2.2.2.2.2.2.2.1 y.1.2.2.2.2.2.2.2.2.2.1 y.1.2.2.2.2.2.2.2.2.2.2.1 y.1.2.2.2.2.2.2.2.2.2.2.2) ⟨(x0, x1, x2, x3, x4, x5, x6, x7, x8, x9, x10, x11), rfl⟩)
def uT (ds : List Nat) (As : List Asn) : List Nat → (bu → List Chunk → List Chunk → Prop) → bu → List Chunk → List Chunk → Prop
 | [], K, s, L, L2 => K s L L2
 | i :: r, K, s, L, L2 => (As.getD i (aV undef)).Op fun u c => uT ds As r (fun s' L' L2' => K ((ds.getD i 0, u) :: s') (c ++ L') (c ++ L2')) s L L2
abbrev AP (ds : List Nat) (As : List Asn) (ix : List Nat) (K : bu → List Chunk → Prop) (s : bu) (L : List Chunk) : Prop := uT ds As ix (fun s L _ => K s L) s L L
def jH (As : List Asn) : List (Value → List Chunk) := As.map Asn.full
theorem pv (As : List Asn) (i : Nat) (h : i < As.length) : (jH As).getD i (fun _ => []) = (As.getD i (aV undef)).full := by
 simp [jH, h]
section
variable {As : List Asn} {val : Nat → Value} {ds : List Nat}
theorem vj {i : Nat} {r : List Nat} {L : List Chunk} (hi : i < As.length) : pX (jH As) val (i :: r) L = (As.getD i (aV undef)).full (val i) ++ pX (jH As) val r L := by
 unfold pX
 rw [List.flatMap_cons, pv _ _ hi, List.append_assoc]
theorem kU {s : bu} {L L2 : List Chunk} {w : World} : ∀ (ix : List Nat) (K : bu → List Chunk → List Chunk → Prop) (Z : List Chunk), (∀ i ∈ ix, i < As.length) → Sp Z (pX (jH As) val ix L) w → uT ds As ix K s L L2 → ∃ C, K (r8 ds val ix s) (C ++ L) (C ++ L2) ∧ Sp Z (C ++ L) w ∧ ∀ L', Cv (C ++ L') (pX (jH As) val ix L')
 | [], K, Z, _, hw, h => ⟨[], h, hw, fun L' => ac _⟩
 | i :: r, K, Z, hi, hw, h => by
  have hil := hi i (by simp)
  rw [vj hil] at hw
  obtain ⟨c, h1, h2, h3⟩ := (As.getD i (aV undef)).hop _ _ _ _ _ hw h
  have h4 : Sp (c ++ Z) (pX (jH As) val r L) w := SepL.perm h2 (by
   show ((c ++ pX (jH As) val r L) ++ Z).Perm (pX (jH As) val r L ++ (c ++ Z))
   rw [List.append_assoc]
   exact (List.perm_append_comm_assoc _ _ _))
  obtain ⟨C, g1, g2, g3⟩ := kU r _ (c ++ Z) (fun j hj => hi j (by simp [hj])) h4 h1
  refine ⟨c ++ C, ?_, ?_, fun L' => ?_⟩
  ·rw [List.append_assoc, List.append_assoc]; exact g1
  ·rw [List.append_assoc]
   refine SepL.perm g2 ?_
   show ((C ++ L) ++ (c ++ Z)).Perm ((c ++ (C ++ L)) ++ Z)
   rw [List.append_assoc c (C ++ L) Z]
   exact List.perm_append_comm_assoc _ _ _
  rw [List.append_assoc, vj hil]
  exact (js c (g3 L')).trans (h3 _)
variable {P : Program} {ops : Array Oper} {s : bu} {o : Oper} {A : Value → List Chunk} {L L2 : List Chunk}
theorem yA {ix : List Nat} (hi : ∀ i ∈ ix, i < As.length) (h : uT ds As ix (fun s' L' L'' => xC P ops s' L' L'' o A) s L L2) : xC P ops (r8 ds val ix s) (pX (jH As) val ix L) (pX (jH As) val ix L2) o A := fun Z w hw => by
 obtain ⟨C, h1, h2, h3⟩ := kU ix _ Z hi hw h
 rcases h1 Z w h2 with ⟨h1, h2⟩ | ⟨h1, h2⟩
 ·refine .inl ⟨h1, fun ρ hρ => ?_⟩
  rcases h2 ρ hρ with ⟨v, w', L', h1, h2, h4⟩ | ⟨w', L', h1, h2, h4⟩ | ⟨f, args, h1, h2⟩ | ⟨l, f, t, a, b, h1, h2⟩
  ·exact .inl ⟨v, w', L', h1, h2, h4.trans (js _ (h3 _))⟩
  ·exact .inr (.inl ⟨w', L', h1, h2, h4.trans (js _ (h3 _))⟩)
  ·exact .inr (.inr (.inl ⟨f, args, h1, h2.mono fun e w' ⟨v, L', g1, g2, g3⟩ => ⟨v, L', g1, g2, g3.trans (js _ (h3 _))⟩⟩))
  exact .inr (.inr (.inr ⟨l, f, t, a, b, h1, h2.mono fun e w' ⟨v, L', g1, g2, g3⟩ => ⟨v, L', g1, g2, g3.trans (js _ (h3 _))⟩⟩))
 exact .inr ⟨h1, js _ (h3 _) _ _ h2⟩
theorem yO {ix : List Nat} (hi : ∀ i ∈ ix, i < As.length) (h : AP ds As ix (fun s' L' => CX P ops s' L' L' o A) s L) : QS P ops (r8 ds val ix s) (pX (jH As) val ix L) o A := fun Z w hw => by
 obtain ⟨C, h1, h2, h3⟩ := kU ix _ Z hi hw h
 obtain ⟨v, g1, g2, g3⟩ := h1 Z w h2
 exact ⟨v, g1, g2, js _ (h3 _) _ _ g3⟩
theorem Cj {X : Cx} {K : K3} {fuel : Nat} {listed : Array Bool} {ix : List Nat} (hi : ∀ i ∈ ix, i < As.length) (h : AP ds As ix (fun s' L' => vv X ops K fuel listed s' L') s L) : vv X ops K fuel listed (r8 ds val ix s) (pX (jH As) val ix L) := fun H Ds a w ha hds hw => by
 obtain ⟨C, h1, h2, h3⟩ := kU ix _ _ hi hw h
 exact h1 H Ds a w ha hds h2
end
theorem gX {s t : bu} (h : qw s t := by first | exact cI | (repeat (first | exact wO | refine gW rfl ?_))) : qw s t := h
end Go.Proofs.Ytmbaennilhdieaa
namespace Go.Proofs.Ytmbaennilhdieaa
open Go.RowKit
class Fc (p : Prop) : Prop where out : p
class FcA (P : Program) (t f : Nat) (o' : outParam Nat) : Prop where
  out : ∀ b o w, (Instr.fieldAt t (.pointer (some ⟨b, o, none⟩)) f).run P w = .ok (.pointer (some ⟨b, o + o', none⟩)) w
class FcA0 (P : Program) (t f : Nat) : Prop where
  out : ∀ b o w, (Instr.fieldAt t (.pointer (some ⟨b, o, none⟩)) f).run P w = .ok (.pointer (some ⟨b, o, none⟩)) w
class FcS (P : Program) (t : Nat) (e : outParam Nat) : Prop where
  out : P.underlying t = some (.slice e)
class FcG (P : Program) (t : Nat) (m : outParam Nat) : Prop where
  out : pD P t m = true
class FcZ (P : Program) (e : Nat) (sz : outParam Nat) : Prop where
  out : dV P e sz = true
def xW : IntKind → IntKind → Bool
  | .i64, .i64 => true
  | .u64, .u64 => true
  | .u8, .u8 => true
  | .i32, .i32 => true
  | .u32, .u32 => true
  | .u16, .u16 => true
  | .i16, .i16 => true
  | .i8, .i8 => true
  | _, _ => false
theorem pt {a b : IntKind} (h : xW a b = true) : a = b := by
  cases a <;> cases b <;> first | rfl | cases h
def DA (s : bu) : Op → Option Value
  | .move x => bC s x
  | .assign x => bC s x
  | .unOp .not _ x => match bC s x with | some (.bool b) => some (.bool (!b)) | _ => none
  | .binOp .eql _ x y _ => match bC s x, bC s y with | some (.int k a), some (.int k' b) => bif xW k k' then some (.bool (decide (a = b))) else none | _, _ => none
  | .binOp .neq _ x y _ => match bC s x, bC s y with | some (.int k a), some (.int k' b) => bif xW k k' then some (.bool (!decide (a = b))) else none | _, _ => none
  | .binOp .lss _ x y _ => match bC s x, bC s y with | some (.int k a), some (.int k' b) => bif xW k k' then some (.bool (decide (a < b))) else none | _, _ => none
  | .binOp .leq _ x y _ => match bC s x, bC s y with | some (.int k a), some (.int k' b) => bif xW k k' then some (.bool (decide (a ≤ b))) else none | _, _ => none
  | .binOp .gtr _ x y _ => match bC s x, bC s y with | some (.int k a), some (.int k' b) => bif xW k k' then some (.bool (decide (b < a))) else none | _, _ => none
  | .binOp .geq _ x y _ => match bC s x, bC s y with | some (.int k a), some (.int k' b) => bif xW k k' then some (.bool (decide (b ≤ a))) else none | _, _ => none
  | .pick c x y => match bC s c with | some (.bool true) => bC s x | some (.bool false) => bC s y | _ => none
  | .extract x i => match bC s x with | some (.tuple vs) => vs[i]? | _ => none
  | .nilCheck x => match bC s x with | some (.pointer (some a)) => some (.pointer (some a)) | _ => none
  | _ => none
section
variable {P : Program} {s : bu} {L : List Chunk} {d : Option Nat} {ty : TypeId} {pos : String} {af : Array Edge} {gd : Option (Nat × Bool)} {op : Op} {v : Value}
theorem Cn (h : DA s op = some v) : Ev P s (fun _ => True) ⟨d, op, ty, pos, af, gd⟩ v := by
  unfold DA at h
  split at h
  · exact aI h
  · exact bP h
  · split at h
    · cases h; exact kX ‹_›
    · cases h
  · split at h
    · rename_i k a k' b hx hy
      cases hk : xW k k' with
      | false => rw [hk] at h; cases h
      | true => rw [hk] at h; cases pt hk; cases h; exact oR hx hy
    · cases h
  · split at h
    · rename_i k a k' b hx hy
      cases hk : xW k k' with
      | false => rw [hk] at h; cases h
      | true => rw [hk] at h; cases pt hk; cases h; exact Da hx hy
    · cases h
  · split at h
    · rename_i k a k' b hx hy
      cases hk : xW k k' with
      | false => rw [hk] at h; cases h
      | true => rw [hk] at h; cases pt hk; cases h; exact BQ hx hy
    · cases h
  · split at h
    · rename_i k a k' b hx hy
      cases hk : xW k k' with
      | false => rw [hk] at h; cases h
      | true => rw [hk] at h; cases pt hk; cases h; exact Db hx hy
    · cases h
  · split at h
    · rename_i k a k' b hx hy
      cases hk : xW k k' with
      | false => rw [hk] at h; cases h
      | true => rw [hk] at h; cases pt hk; cases h; exact Dc hx hy
    · cases h
  · split at h
    · rename_i k a k' b hx hy
      cases hk : xW k k' with
      | false => rw [hk] at h; cases h
      | true => rw [hk] at h; cases pt hk; cases h; exact Dd hx hy
    · cases h
  · split at h
    · exact sH ‹_› h
    · exact sI ‹_› h
    · cases h
  · split at h
    · exact cc ‹_› h
    · cases h
  · split at h
    · cases h; exact cx ‹_›
    · cases h
  · cases h
end
structure RunT (X : Cx) (ops : Array Oper) (o : Oper) (rest : List Oper) (K : K3) (s : bu) (L : List Chunk) : Prop where
  out : bo ops s o = some true → cj X ops (o :: rest) K s L
section
variable {X : Cx} {ops : Array Oper} {K : K3} {s : bu} {L : List Chunk} {l rest : List Oper} {c : Code} {d : Nat} {op : Op} {ty : TypeId} {pos : String} {af : Array Edge} {gd : Option (Nat × Bool)} {v : Value}
theorem DJ {o : Oper} (h : RunT X ops o rest K s L) (hg : bo ops s o = some true := by first | exact rfl | exact aJ (by assumption) rfl | exact cO (by assumption) rfl) : cj X ops (o :: rest) K s L := h.out hg
theorem DK (k : cj X ops rest K ((d, undef) :: s) L) (hg : bo ops s ⟨some d, op, ty, pos, af, gd⟩ = some false := by first | exact rfl | exact eV (by assumption) rfl | exact oJ (by assumption) rfl) (hd : Nat.ble (d + 1) X.n = true := by exact rfl) : cj X ops (⟨some d, op, ty, pos, af, gd⟩ :: rest) K s L := DH hg hd k
theorem tE (h : DA s op = some v) (hn : f0 ⟨some d, op, ty, pos, af, gd⟩ = true) (hd : Nat.ble (d + 1) X.n = true) (k : cj X ops rest K ((d, v) :: s) L) : RunT X ops ⟨some d, op, ty, pos, af, gd⟩ rest K s L := ⟨fun hg => kc (Cn h) hn hg hd k⟩
theorem tP {c x y : Operand} {g : Bool} (hc : bC s c = some (.bool g)) (hg : g = true) (hx : bC s x = some v) (hd : Nat.ble (d + 1) X.n = true) (k : cj X ops rest K ((d, v) :: s) L) : RunT X ops ⟨some d, .pick c x y, ty, pos, af, gd⟩ rest K s L := ⟨fun hh => kc (dm hg hc hx) rfl hh hd k⟩
theorem tQ {c x y : Operand} {g : Bool} (hc : bC s c = some (.bool g)) (hg : g = false) (hy : bC s y = some v) (hd : Nat.ble (d + 1) X.n = true) (k : cj X ops rest K ((d, v) :: s) L) : RunT X ops ⟨some d, .pick c x y, ty, pos, af, gd⟩ rest K s L := ⟨fun hh => kc (dn hg hc hy) rfl hh hd k⟩
theorem DL {t f : Nat} {x : Operand} {b o : Nat} [h : FcA0 X.P t f] (hx : bC s x = some (.pointer (some ⟨b, o, none⟩))) (hd : Nat.ble (d + 1) X.n = true) (k : cj X ops rest K ((d, .pointer (some ⟨b, o, none⟩)) :: s) L) : RunT X ops ⟨some d, .fieldAddr t x f, ty, pos, af, gd⟩ rest K s L := ⟨fun hh => kc (kY hx h.out) rfl hh hd k⟩
theorem tF {t f o' : Nat} {x : Operand} {b o : Nat} [h : FcA X.P t f o'] (hx : bC s x = some (.pointer (some ⟨b, o, none⟩))) (hd : Nat.ble (d + 1) X.n = true) (k : cj X ops rest K ((d, .pointer (some ⟨b, o + o', none⟩)) :: s) L) : RunT X ops ⟨some d, .fieldAddr t x f, ty, pos, af, gd⟩ rest K s L := ⟨fun hh => kc (cK hx h.out) rfl hh hd k⟩
theorem tB {t bt : TypeId} {x : Operand} {b o : Nat} {cs : List Value} [hu : Fc (gZ X.P t = true)] (i : Nat) (hi : L[i]? = some (aq b bt cs)) (hx : bC s x = some (.pointer (some ⟨b, o, none⟩))) (hc : cs[o]? = some v) (hd : Nat.ble (d + 1) X.n = true) (k : cj X ops rest K ((d, v) :: s) L) : RunT X ops ⟨some d, .load t x, ty, pos, af, gd⟩ rest K s L := ⟨fun hh => aZ (bd i hi hx hu.out hc) rfl hh hd k⟩
theorem Dq (h : cj X ops l K s L) : cj X ops l K s L := h
theorem DQ {s2 : bu} {L2 : List Chunk} (h : cj X ops l (vw s2 L2) s L) : cj X ops l (vw s2 L2) s L := h
theorem DS {o : Oper} {l' : List Oper} (hl : l' = o :: l) (h : cj X ops (o :: l) K s L) : cj X ops l' K s L := hl ▸ h
theorem DP {l' : List Oper} (hl : l' = []) (h : K .normal s L) : cj X ops l' K s L := hl ▸ o3 h
theorem DR {id : Nat} {g : Operand} {ps : Array Nat} {x y : Code} (h : Wq X (.block id (.rangeFunc g ps x y)) K s L) : Wq X (.block id (.rangeFunc g ps x y)) K s L := h
theorem DO (h : Wq X c K s L) : Wq X c K s L := h
end
structure Bxd (q : Prop) : Prop where un : q
theorem run {p q : Prop} (k : q) (h : Bxd q → p := by
  intro k
  repeat (first
    | (with_reducible refine Dq ?_
       refine DS rfl ?_
       first
         | (refine DJ ?_
            first
              | refine tE rfl rfl rfl ?_
              | refine DL rfl rfl ?_
              | refine tF rfl rfl ?_
              | refine tB 0 rfl rfl rfl rfl ?_
              | refine tB 1 rfl rfl rfl rfl ?_
              | refine tB 2 rfl rfl rfl rfl ?_
              | refine tB 3 rfl rfl rfl rfl ?_
              | refine tB 4 rfl rfl rfl rfl ?_
              | refine tB 5 rfl rfl rfl rfl ?_
              | refine tB 6 rfl rfl rfl rfl ?_
              | refine tB 7 rfl rfl rfl rfl ?_
              | refine tP rfl (by assumption) rfl rfl ?_
              | refine tQ rfl (by assumption) rfl rfl ?_)
         | refine DK ?_)
    | (with_reducible refine Dq ?_
       fail_if_success with_reducible refine DQ ?_
       refine DP rfl ?_)
    | (with_reducible refine DO ?_
       first
         | refine av (cN ?_)
         | with_reducible refine cN ?_
         | with_reducible refine wG ?_
         | (fail_if_success with_reducible refine DR ?_
            with_reducible refine ep ?_)
         | with_reducible refine BW ?_
         | with_reducible refine Aj ?_)
    | with_reducible refine kO ?_
    | with_reducible refine CK ?_
    | with_reducible refine Dk ?_
    | with_reducible refine Dj ?_
    | with_reducible refine C5 ?_
    | with_reducible refine C6 ?_)
  exact k.un) : p := h ⟨k⟩
theorem D0 {p q : Prop} (k : q) (h : Bxd q → p := by
  intro k
  repeat (first
    | (with_reducible refine Dq ?_
       refine DS rfl ?_
       first
         | (refine DJ ?_
            first
              | refine tE rfl rfl rfl ?_
              | refine DL rfl rfl ?_
              | refine tF rfl rfl ?_
              | refine tB 0 rfl rfl rfl rfl ?_
              | refine tB 1 rfl rfl rfl rfl ?_
              | refine tB 2 rfl rfl rfl rfl ?_
              | refine tB 3 rfl rfl rfl rfl ?_
              | refine tB 4 rfl rfl rfl rfl ?_
              | refine tB 5 rfl rfl rfl rfl ?_
              | refine tB 6 rfl rfl rfl rfl ?_
              | refine tB 7 rfl rfl rfl rfl ?_
              | refine tP rfl (by assumption) rfl rfl ?_
              | refine tQ rfl (by assumption) rfl rfl ?_)
         | refine DK ?_))
  exact k.un) : p := h ⟨k⟩
theorem DZ {p q : Prop} (k : q) (h : Bxd q → p := by
  intro k
  repeat (first
    | (with_reducible refine Dq ?_
       fail_if_success with_reducible refine DQ ?_
       refine DP rfl ?_)
    | (with_reducible refine DO ?_
       first
         | refine av (cN ?_)
         | with_reducible refine cN ?_
         | with_reducible refine wG ?_
         | (fail_if_success with_reducible refine DR ?_
            with_reducible refine ep ?_)
         | with_reducible refine BW ?_
         | with_reducible refine Aj ?_)
    | with_reducible refine kO ?_
    | with_reducible refine CK ?_
    | with_reducible refine Dk ?_
    | with_reducible refine Dj ?_
    | with_reducible refine C5 ?_
    | with_reducible refine C6 ?_)
  exact k.un) : p := h ⟨k⟩
end Go.Proofs.Ytmbaennilhdieaa
namespace Go.Proofs.Ytmbaennilhdieaa
open Go.RowKit
open Asn
def wN (m : Nat) (listed : Array Bool) (Bs : List (List Chunk)) : List Chunk := ((List.range m).filter fun i => !listed.getD i false).flatMap fun i => Bs.getD i []
theorem wM {m : Nat} {listed : Array Bool} {Bs : List (List Chunk)} (h : ∀ i, i < m → listed.getD i false = true) : wN m listed Bs = [] := by
 unfold wN
 rw [List.filter_eq_nil_iff.2 fun i hi => by rw [h i (List.mem_range.1 hi)]; simp]; rfl
theorem yy {m j : Nat} {listed : Array Bool} {Bs : List (List Chunk)} (hj : j < m) (hf : listed.getD j false = false) (hs : j < listed.size) : (wN m listed Bs).Perm (Bs.getD j [] ++ wN m (listed.setIfInBounds j true) Bs) := by
 unfold wN
 have hp : ((List.range m).filter fun i => !listed.getD i false).Perm (j :: (List.range m).filter fun i => !(listed.setIfInBounds j true).getD i false) := by
  refine (List.perm_ext_iff_of_nodup (List.nodup_range.filter _) (List.nodup_cons.2 ⟨fun h => ?_, List.nodup_range.filter _⟩)).2 fun k => ?_
  ·have h2 := (List.mem_filter.1 h).2
   simp [hs] at h2
  rw [List.mem_cons, List.mem_filter, List.mem_filter]
  by_cases e : k = j
  ·subst e; simp [hj, hf]
  have h3 : (listed.setIfInBounds j true).getD k false = listed.getD k false := by
   simp [Array.getElem?_setIfInBounds_ne (fun h => e h.symm)]
  rw [h3]; simp [e]
 exact hp.flatMap_right _
theorem xP {α : Type} {F Fp Fr U B U' L D : List α} (h1 : F.Perm (Fp ++ Fr)) (h2 : U.Perm (B ++ U')) : (F ++ (U ++ L) ++ D).Perm ((Fp ++ (B ++ L)) ++ (Fr ++ (U' ++ D))) := by
 classical
 rw [List.perm_iff_count] at h1 h2 ⊢
 intro x
 have := h1 x; have := h2 x
 simp only [List.count_append] at *
 omega
theorem yT {α : Type} {F F' Fp Fr A U L D : List α} (h1 : F'.Perm (A ++ F)) (h2 : F.Perm (Fp ++ Fr)) : ((A ++ (Fp ++ L)) ++ (Fr ++ (U ++ D))).Perm (F' ++ (U ++ L) ++ D) := by
 classical
 rw [List.perm_iff_count] at h1 h2 ⊢
 intro x
 have := h1 x; have := h2 x
 simp only [List.count_append] at *
 omega
theorem BC {X : Cx} {K : K3} {s : bu} {L : List Chunk} {id : Nat} {l : List Oper} (hm : X.P.follows .mixedOrders = true) (m : Nat) (qs : List Nat) (ds : List Nat) (pr : List (List Nat)) (As : List (Value → List Chunk)) (Bs : List (List Chunk)) {L0 : List Chunk} (hL : Cv L0 (wN m (Array.replicate l.length false) Bs ++ L)) (hBq : ∀ q ∈ qs, Bs.getD q [] = []) (hok : C4 l.toArray m qs ds pr s X.n = true)
  (qstep : ∀ q ∈ qs, ∀ (o : Oper), q < m → l.toArray[q]? = some o → ∀ val : Nat → Value, QS X.P l.toArray (r8 ds val (pr.getD q []) s) (pX As val (pr.getD q []) L) o (As.getD q fun _ => []))
  (step : ∀ (i : Nat) (o : Oper), i < m → l.toArray[i]? = some o → ∀ val : Nat → Value, xC X.P l.toArray (r8 ds val (pr.getD i []) s) (pX As val (pr.getD i []) (Bs.getD i [] ++ L)) (pX As val (pr.getD i []) L) o (As.getD i fun _ => []))
  (fin : ∀ val : Nat → Value, vv X l.toArray K (l.length - m) (i6 (Array.replicate l.length false) (List.range m)) (r8 ds val (List.range m) s) (pX As val (List.range m) L)) : Wq X (.region id l.toArray true) K s L0 := by
 unfold C4 at hok
 simp only [Bool.and_eq_true, decide_eq_true_eq, List.all_eq_true, List.mem_range] at hok
 obtain ⟨⟨⟨⟨⟨⟨⟨⟨hns, hqs⟩, h1⟩, h2⟩, h3⟩, h4⟩, h5⟩, h6⟩, h7⟩ := hok
 simp only [List.size_toArray] at h2 h7 hqs
 have hdst : ∀ i o, i < m → l.toArray[i]? = some o → o.dst = some (ds.getD i 0) := fun i o hi ho => by
  have h8 := (h6 i hi).1.1.1
  rw [ho] at h8
  have h9 : o.dst = ds[i]? := by simpa using h8
  rw [h9]
  simp [List.getD, h3, hi]
 have hds : ∀ i j, i < m → j < m → ds.getD i 0 = ds.getD j 0 → i = j := fun i j hi hj e => by
  have e1 : ds.getD i 0 = ds[i]'(by omega) := by simp [List.getD, h3, hi]
  have e2 : ds.getD j 0 = ds[j]'(by omega) := by simp [List.getD, h3, hj]
  rw [e1, e2] at e
  have hp := List.pairwise_iff_getElem.1 h4
  rcases Nat.lt_trichotomy i j with h | h | h
  ·exact absurd e (hp i j (by omega) (by omega) h)
  ·exact h
  exact absurd e.symm (hp j i (by omega) (by omega) h)
 have hdn : ∀ i, i < m → ds.getD i 0 < X.n ∧ ∀ k v, eb s k = some v → k ≠ ds.getD i 0 := fun i hi => by
  have hmem : ds.getD i 0 ∈ ds := by
   have e1 : ds.getD i 0 = ds[i]'(by omega) := by simp [List.getD, h3, hi]
   rw [e1]; exact List.getElem_mem _
  have h8 := h5 _ hmem
  refine ⟨Nat.le_of_ble_eq_true h8.1, fun k v hp e => ?_⟩
  have h9 := h8.2 _ (ku _ _ _ hp)
  simp only [e, Nat.beq_refl] at h9
  cases h9
 have hpr : ∀ i, i < m → (∀ k ∈ pr.getD i [], k ∈ pe l.toArray i ∧ k < m) ∧ (pr.getD i []).Nodup ∧ ∀ k ∈ oz l.toArray i, k < i := fun i hi => by
  obtain ⟨⟨⟨-, g2⟩, g3⟩, g4⟩ := h6 i hi
  refine ⟨fun k hk => ?_, g3, fun k hk => ?_⟩
  ·have g5 := g2 k hk
   exact ⟨by simpa using g5.1, Nat.lt_of_succ_le (Nat.le_of_ble_eq_true g5.2)⟩
  exact Nat.lt_of_succ_le (Nat.le_of_ble_eq_true (g4 k hk))
 -- the invariant
 have main : ∀ (fuel : Nat) (listed : Array Bool) (val : Nat → Value) (H : List Chunk) (Ds : List Nat) (a : Act) (w : World), listed.size = l.length → qx l.toArray listed → (∀ t, m ≤ t → listed.getD t false = false) → fuel + (rO m listed).length = l.length → Fx X s a → (∀ i, i < m → listed.getD i false = true → a.tmps.getD (ds.getD i 0) undef = val i) → a.defers = Ds.map lq → Sp (Ds.map bx ++ H) (pX As val (rO m listed) (wN m listed Bs ++ L)) w → wpAnyIn (rN X.r) 0 X.P .any l.toArray (mY X H (oA K)) fuel listed a w := by
  intro fuel
  induction fuel with
  | zero =>
   intro listed val H Ds a w hsz hcl hhi hfu hfx hval hdf hsp
   have hle : (rO m listed).length ≤ (List.range m).length := List.length_filter_le _ _
   have hm' : m = l.length := by rw [List.length_range] at hle; omega
   have hlst : rO m listed = List.range m := List.filter_eq_self.2 fun i hi => List.length_filter_eq_length_iff.1 (show (rO m listed).length = (List.range m).length by rw [List.length_range]; omega) i hi
   have hli : i6 (Array.replicate l.length false) (List.range m) = listed := by
    apply Array.ext
    ·rw [eP]; simp [hsz]
    intro k hk hk2
    rw [eP] at hk
    have e1 := ny (List.range m) (Array.replicate l.length false) k hk
    simp only [Array.size_replicate] at hk
    have hin : k ∈ rO m listed := by rw [hlst]; simp; omega
    have e2 := (gq.1 hin).2
    have e3 : (List.range m).contains k = true := by simp; omega
    rw [e3, Bool.or_true] at e1
    simp only [Array.getD_eq_getD_getElem?, Array.getElem?_eq_getElem, hk2, Option.getD_some] at e2
    have hk3 : k < (i6 (Array.replicate l.length false) (List.range m)).size := by rw [eP]; simpa using hk
    simp only [Array.getD_eq_getD_getElem?, Array.getElem?_eq_getElem, hk3, Option.getD_some] at e1
    rw [e1, e2]
   have hunl : wN m listed Bs = [] := wM fun i hi => (gq.1 (by rw [hlst]; exact List.mem_range.2 hi)).2
   rw [hlst, hunl, List.nil_append] at hsp
   have hf := fin val H Ds a w ⟨hfx.size, fun k v hk => by
    rcases oE _ _ _ _ hk with h | h
    ·obtain ⟨i, hi, he⟩ := List.mem_map.1 (ku _ _ _ h)
     cases he
     have hi' : i ∈ rO m listed := by rw [hlst]; exact hi
     exact hval i (gq.1 hi').1 (gq.1 hi').2
    ·exact hfx.at_ k v h⟩ hdf hsp
   rw [hli, show l.length - m = 0 by omega] at hf
   exact hf
  | succ fuel ih =>
   intro listed val H Ds a w hsz hcl hhi hfu hfx hval hdf hsp
   by_cases hall : ∀ i, i < m → listed.getD i false = true
   ·have hlst : rO m listed = List.range m := List.filter_eq_self.2 fun i hi => hall i (by simpa using hi)
    have hli : i6 (Array.replicate l.length false) (List.range m) = listed := by
     apply Array.ext
     ·rw [eP]; simp [hsz]
     intro k hk hk2
     rw [eP] at hk
     have e1 := ny (List.range m) (Array.replicate l.length false) k hk
     have hk3 : k < (i6 (Array.replicate l.length false) (List.range m)).size := by rw [eP]; exact hk
     simp only [Array.getD_eq_getD_getElem?, Array.getElem?_eq_getElem, hk3, Option.getD_some] at e1
     rw [e1]
     simp only [Array.size_replicate] at hk
     by_cases hkm : k < m
     ·have e2 := hall k hkm
      simp only [Array.getD_eq_getD_getElem?, Array.getElem?_eq_getElem, hk2, Option.getD_some] at e2
      rw [e2]; simp [hkm]
     have e2 := hhi k (by omega)
     simp only [Array.getD_eq_getD_getElem?, Array.getElem?_eq_getElem, hk2, Option.getD_some] at e2
     rw [e2]; simp [hk, hkm]
    rw [hlst, wM hall, List.nil_append] at hsp
    rw [hlst] at hfu
    rw [List.length_range] at hfu
    have hf := fin val H Ds a w ⟨hfx.size, fun k v hk => by
     rcases oE _ _ _ _ hk with h | h
     ·obtain ⟨i, hi, he⟩ := List.mem_map.1 (ku _ _ _ h)
      cases he
      have hi' : i < m := by simpa using hi
      exact hval i hi' (hall i hi')
     ·exact hfx.at_ k v h⟩ hdf hsp
    rw [hli, show l.length - m = fuel + 1 by omega] at hf
    exact hf
   have hex : ∃ i, i < m ∧ listed.getD i false = false := by
    refine Classical.byContradiction fun h => hall fun i hi => ?_
    cases hb : listed.getD i false with
    | true => rfl
    | false => exact absurd ⟨i, hi, hb⟩ h
   have hun : ∀ i, listed.getD i false = false → i < l.length → listed.getD i true = false := fun i hi hlt => by
    simp only [Array.getD_eq_getD_getElem?, Array.getElem?_eq_getElem, hsz, hlt, Option.getD_some] at hi ⊢
    exact hi
   have hleast : ∃ i0, i0 < m ∧ listed.getD i0 false = false ∧ i0 ∈ Region.ready .any l.toArray listed := by
    obtain ⟨⟨hi0, hu0⟩, hmin⟩ := leastOf_spec hex
    generalize leastOf (fun i => i < m ∧ listed.getD i false = false) = i0 at hi0 hu0 hmin
    have hlt : i0 < l.length := by omega
    refine ⟨i0, hi0, hu0, ?_⟩
    
    refine mem_ready.2 ⟨hun i0 hu0 hlt, l[i0], by simp [hlt], fun e he hb => ?_⟩
    have hon : e.on ∈ oz l.toArray i0 := by
     unfold oz
     rw [show l.toArray[i0]? = some l[i0] by simp [hlt]]
     exact List.mem_map.2 ⟨e, List.mem_filter.2 ⟨by simpa using he, hb⟩, rfl⟩
    have hlt2 := (hpr i0 hi0).2.2 _ hon
    cases hb2 : listed.getD e.on false with
    | true => rfl
    | false => have := hmin _ ⟨by omega, hb2⟩; omega
   -- what an operation takes, and going on behind it
   have prep : ∀ j o, j ∈ Region.ready .any l.toArray listed → j < m → l.toArray[j]? = some o → ∃ rest : List Nat,
     Sp ((rest.flatMap fun i => (As.getD i fun _ => []) (val i)) ++ (wN m (listed.setIfInBounds j true) Bs ++ (Ds.map bx ++ H))) (pX As val (pr.getD j []) (Bs.getD j [] ++ L)) w ∧ Fx X (r8 ds val (pr.getD j []) s) a ∧
     ∀ (v : Value) (w' : World), Sp ((rest.flatMap fun i => (As.getD i fun _ => []) (val i)) ++ (wN m (listed.setIfInBounds j true) Bs ++ (Ds.map bx ++ H))) ((As.getD j fun _ => []) v ++ pX As val (pr.getD j []) L) w' → wpAnyIn (rN X.r) 0 X.P .any l.toArray (mY X H (oA K)) fuel (listed.setIfInBounds j true) (a.put o.dst v) w' := by
    intro j o hj hjm ho
    obtain ⟨hju, o2, ho2, hedge⟩ := mem_ready.1 hj
    rw [ho] at ho2; cases ho2
    have hjl : j < l.length := by
     have := (Array.getElem?_eq_some_iff.1 ho).1
     simpa using this
    have hjf : listed.getD j false = false := by
     simp only [Array.getD_eq_getD_getElem?, Array.getElem?_eq_getElem, hsz, hjl, Option.getD_some] at hju ⊢
     exact hju
    obtain ⟨hp1, hp2, hp3⟩ := hpr j hjm
    have hps : ∀ k ∈ pr.getD j [], k ∈ rO m listed := fun k hk => by
     obtain ⟨g1, g2⟩ := hp1 k hk
     exact gq.2 ⟨g2, nz hcl hj (lK k g1)⟩
    have hd := hdst j o hjm ho
    obtain ⟨hdlt, hdne⟩ := hdn j hjm
    -- the chunks that the operation takes, and the rest
    have hperm : (rO m listed).Perm (pr.getD j [] ++ (rO m listed).filter fun k => !(pr.getD j []).contains k) := by
     refine (List.perm_ext_iff_of_nodup lst_nodup ?_).2 fun k => ?_
     ·refine List.nodup_append.2 ⟨hp2, lst_nodup.filter _, fun x hx y hy e => ?_⟩
      subst e
      have h11 := (List.mem_filter.1 hy).2
      have h12 : (pr.getD j []).contains x = true := List.contains_iff_mem.2 hx
      rw [h12] at h11
      cases h11
     constructor
     ·intro hk
      by_cases hkp : k ∈ pr.getD j []
      ·exact List.mem_append_left _ hkp
      exact List.mem_append_right _ (List.mem_filter.2 ⟨hk, by simpa using hkp⟩)
     intro hk
     rcases List.mem_append.1 hk with hk | hk
     ·exact hps k hk
     exact (List.mem_filter.1 hk).1
    generalize hrest : (rO m listed).filter (fun k => !(pr.getD j []).contains k) = rest at hperm
    have hsp1 : Sp ((rest.flatMap fun i => (As.getD i fun _ => []) (val i)) ++ (wN m (listed.setIfInBounds j true) Bs ++ (Ds.map bx ++ H))) (pX As val (pr.getD j []) (Bs.getD j [] ++ L)) w := by
     refine SepL.perm hsp ?_
     unfold pX
     have e1 := qu (As := As) (val := val) hperm
     rw [List.flatMap_append] at e1
     have e9 := yy (Bs := Bs) (m := m) (listed := listed) hjm hjf (by rw [hsz]; exact hjl)
     exact xP e1 e9
    have hfxs : Fx X (r8 ds val (pr.getD j []) s) a := ⟨hfx.size, fun k v hk => by
     rcases oE _ _ _ _ hk with h | h
     ·obtain ⟨i, hi, he⟩ := List.mem_map.1 (ku _ _ _ h)
      cases he
      exact hval i (gq.1 (hps i hi)).1 (gq.1 (hps i hi)).2
     ·exact hfx.at_ k v h⟩
    refine ⟨rest, hsp1, hfxs, ?_⟩
    have go : ∀ (v : Value) (w' : World), Sp ((rest.flatMap fun i => (As.getD i fun _ => []) (val i)) ++ (wN m (listed.setIfInBounds j true) Bs ++ (Ds.map bx ++ H))) ((As.getD j fun _ => []) v ++ pX As val (pr.getD j []) L) w' → wpAnyIn (rN X.r) 0 X.P .any l.toArray (mY X H (oA K)) fuel (listed.setIfInBounds j true) (a.put o.dst v) w' := by
     intro v w' hsp2
     rw [hd]
     have hjn : j ∉ rO m listed := fun h => by have := (gq.1 h).2; rw [hjf] at this; cases this
     have hl2 : (rO m (listed.setIfInBounds j true)).Perm (j :: rO m listed) := by
      refine (List.perm_ext_iff_of_nodup lst_nodup (List.nodup_cons.2 ⟨hjn, lst_nodup⟩)).2 fun k => ?_
      rw [gq, List.mem_cons, gq]
      constructor
      ·rintro ⟨g1, g2⟩
       rcases jo g2 with e | e
       ·exact .inl e
       exact .inr ⟨g1, e⟩
      rintro (e | ⟨g1, g2⟩)
      ·subst e
       refine ⟨hjm, ?_⟩
       simp [hsz, hjl]
      exact ⟨g1, getD_set_true g2⟩
     refine ih (listed.setIfInBounds j true) (fun k => if k = j then v else val k) H Ds (a.put (some (ds.getD j 0)) v) w' (by simpa using hsz) (wl hcl hj) (fun t ht => ?_) ?_ ?_ ?_ ((put_defers _ _ _).trans hdf) ?_
     ·rw [getD_set_ne false (by omega)]; exact hhi t ht
     ·have := hl2.length_eq; rw [List.length_cons] at this; omega
     ·refine (hfx.put v hdlt).sub fun k u hk => ?_
      rw [eB, if_neg (fun e => hdne k u hk e.symm)]; exact hk
     ·intro i hi hli
      have hput : (a.put (some (ds.getD j 0)) v).tmps = a.tmps.setIfInBounds (ds.getD j 0) v := rfl
      rw [hput]
      by_cases e : i = j
      ·subst e
       rw [if_pos rfl]
       have h13 : ds.getD i 0 < a.tmps.size := by rw [hfx.size]; exact hdlt
       generalize ds.getD i 0 = dd at h13 ⊢
       simp [h13]
      rw [if_neg e]
      rcases jo hli with e2 | e2
      ·exact absurd e2 e
      rw [← hval i hi e2]
      have hne : ds.getD j 0 ≠ ds.getD i 0 := fun h => e (hds j i hjm hi h).symm
      generalize ds.getD j 0 = dd at hne ⊢
      generalize ds.getD i 0 = de at hne ⊢
      simp [Array.getElem?_setIfInBounds_ne hne]
     refine SepL.perm hsp2 ?_
     unfold pX
     have e1 := qu (As := As) (val := fun k => if k = j then v else val k) hl2
     rw [List.flatMap_cons, if_pos rfl] at e1
     have e2 : ((rO m listed).flatMap fun i => (As.getD i fun _ => []) (if i = j then v else val i)) = (rO m listed).flatMap fun i => (As.getD i fun _ => []) (val i) := by
      have key : ∀ l' : List Nat, (∀ i ∈ l', i ∈ rO m listed) → (l'.flatMap fun i => (As.getD i fun _ => []) (if i = j then v else val i)) = l'.flatMap fun i => (As.getD i fun _ => []) (val i) := by
       intro l'
       induction l' with
       | nil => intro _; rfl
       | cons i l' ihl =>
        intro hl'
        rw [List.flatMap_cons, List.flatMap_cons, ihl fun q hq => hl' q (by simp [hq]), if_neg (fun e : i = j => hjn (e ▸ hl' i (by simp)))]
      exact key _ fun _ h => h
     rw [e2] at e1
     have e3 := qu (As := As) (val := val) hperm
     rw [List.flatMap_append] at e3
     exact yT e1 e3
    exact go
   by_cases hq : ∃ q ∈ qs, q < m ∧ q ∈ Region.ready .any l.toArray listed
   ·-- an operation whose value does not depend on the world comes first
    obtain ⟨q, hqm, hqlt, hqr⟩ := hq
    obtain ⟨hqu, o, ho, hedge⟩ := mem_ready.1 hqr
    obtain ⟨rest, hsp1, hfxs, go⟩ := prep q o hqr hqlt ho
    rw [hBq q hqm, List.nil_append] at hsp1
    obtain ⟨v, hg, hev, hcv⟩ := qstep q hqm o hqlt ho val _ _ hsp1
    have hfree := hqs q hqm
    rw [ho] at hfree
    simp only [List.all_eq_true, List.mem_range] at hfree
    refine qA _ _ _ _ (np (C := fun _ => True) (oi := o) (v := v) ho (mH h1) (Region.noSelect_spec hns) (fun c a w ⟨_, _, _, _, _, _, he, _⟩ => (by cases he)) fuel listed a w trivial ?_ hqr (.inl ⟨cH hfxs hg, fun w' _ => hev a.eval (fun x u hx => hfxs.eval hx) w' trivial⟩) (Ab _ _ _ _ (go v w hcv)))
    intro j oj hoj hne hul hno
    have hjl : j < l.length := by
     have := (Array.getElem?_eq_some_iff.1 hoj).1
     simpa using this
    have h8 := hfree j hjl
    rw [hoj] at h8
    simp only [Bool.or_eq_true] at h8
    rcases h8 with ((h8 | h8) | h8) | h8
    ·exact absurd (Nat.eq_of_beq_eq_true h8) hne
    ·obtain ⟨o', e, ho', he, hb, heq⟩ := rf (List.contains_iff_mem.1 h8)
     rw [hoj] at ho'; cases ho'
     exact absurd heq (hno e he hb)
    ·have h14 := nz hcl hqr (lK j (List.contains_iff_mem.1 h8))
     simp only [Array.getD_eq_getD_getElem?, Array.getElem?_eq_getElem, hsz, hjl, Option.getD_some] at h14 hul
     rw [h14] at hul
     cases hul
    exact h8
   refine ⟨fun hr => ?_, fun j hj => ?_⟩
   ·obtain ⟨i0, -, -, hin⟩ := hleast
    rw [hr] at hin
    cases hin
   obtain ⟨hju, o, ho, hedge⟩ := mem_ready.1 hj
   have hjl : j < l.length := by
    have := (Array.getElem?_eq_some_iff.1 ho).1
    simpa using this
   have hjm : j < m := by
    refine Classical.byContradiction fun hge => ?_
    obtain ⟨i0, hi0, hu0, hin0⟩ := hleast
    have h8 := h7 j hjl
    have h9 : Nat.blt j m = false := by
     cases hb : Nat.blt j m with
     | false => rfl
     | true => exact absurd (Nat.lt_of_succ_le (Nat.le_of_ble_eq_true hb)) hge
    rw [h9, Bool.false_or, List.all_eq_true] at h8
    have h10 := h8 i0 (by simpa using hi0)
    rw [Bool.or_eq_true] at h10
    rcases h10 with h10 | h10
    ·exact hq ⟨i0, List.contains_iff_mem.1 h10, hi0, hin0⟩
    have := nz hcl hj (lK i0 (by simpa using h10))
    rw [hu0] at this; cases this
   have hndef : f0 o = true := mH h1 j o ho
   obtain ⟨rest, hsp1, hfxs, go⟩ := prep j o hj hjm ho
   unfold wpOpIn
   rw [ho]
   dsimp only
   rcases step j o hjm ho val _ _ hsp1 with ⟨hg, hop⟩ | ⟨hg, hsp2⟩
   ·rw [if_pos (cH hfxs hg)]
    refine (hop a.eval fun x u hx => hfxs.eval hx).wpIn hndef fun v L' w' hc hs => ?_
    exact go v w' (hc _ _ hs)
   rw [if_neg (by rw [cH hfxs hg]; exact Bool.false_ne_true)]
   exact ⟨fun _ _ => trivial, go undef w hsp2⟩
 intro H Ds a w ha hds' hw
 have hw1 : Sp (Ds.map bx ++ H) (wN m (Array.replicate l.length false) Bs ++ L) { w with drawn := w.drawn + 1 } := SepL.same (hL _ _ hw) ⟨rfl, rfl, rfl, Nat.le_refl _, fun _ _ _ => rfl⟩
 have hf : ∀ k, (Array.replicate l.length false).getD k false = false := fun k => by
  simp only [Array.getD_eq_getD_getElem?, Array.getElem?_replicate]
  split <;> rfl
 have hl0 : rO m (Array.replicate l.length false) = [] := by
  refine List.eq_nil_iff_forall_not_mem.2 fun i hi => ?_
  have := (gq.1 hi).2
  rw [hf] at this; cases this
 have h9 := main l.length (Array.replicate l.length false) (fun _ => undef) H Ds a _ (by simp) (fun k o e hk => by rw [hf] at hk; cases hk) (fun t _ => hf t) (by rw [hl0]; simp) ha (fun i _ hi => by rw [hf] at hi; cases hi) hds' (by rw [hl0]; exact hw1)
 refine wpIn_mono (wpIn_region_any hm (by simpa using h9)) ?_
 rintro e a' w' ⟨s', L', Ds', g1, g2, g3, rfl, g4⟩
 exact ⟨s', L', Ds', g1, g2, g3, g4⟩
theorem gH {Bs : List (List Chunk)} : ∀ q ∈ ([] : List Nat), Bs.getD q [] = [] := fun _ h => nomatch h
theorem eJ {Bs : List (List Chunk)} {q' : Nat} {qs : List Nat} (h : Bs.getD q' [] = []) (t : ∀ q ∈ qs, Bs.getD q [] = []) : ∀ q ∈ q' :: qs, Bs.getD q [] = [] := fun q hq => (List.mem_cons.1 hq).elim (fun e => e ▸ h) (t q)
theorem rp {ds : List Nat} {val : Nat → Value} {s : bu} : ∀ (l : List Nat), (∀ i ∈ l, ∀ j ∈ l, ds.getD i 0 = ds.getD j 0 → i = j) → ∀ i ∈ l, eb (l.map (fun i => (ds.getD i 0, val i)) ++ s) (ds.getD i 0) = some (val i)
 | [], _, i, h => by cases h
 | j :: l, hd, i, h => by
  rw [List.map_cons, List.cons_append, eB]
  by_cases e : ds.getD j 0 = ds.getD i 0
  ·rw [if_pos e, hd j (by simp) i h e]
  rw [if_neg e]
  rcases List.mem_cons.1 h with e2 | h
  ·subst e2; exact absurd rfl e
  exact rp l (fun a ha b hb => hd a (by simp [ha]) b (by simp [hb])) i h
theorem pp {ds : List Nat} {val : Nat → Value} {s : bu} {k : Nat} : ∀ (l : List Nat), (∀ i ∈ l, ds.getD i 0 ≠ k) → eb (l.map (fun i => (ds.getD i 0, val i)) ++ s) k = eb s k
 | [], _ => rfl
 | j :: l, hd => by
  rw [List.map_cons, List.cons_append, eB, if_neg (hd j (by simp))]
  exact pp l fun i hi => hd i (by simp [hi])
theorem zC {As : List (Value → List Chunk)} {val : Nat → Value} {L : List Chunk} {m : Nat} {ix : List Nat} (hn : ix.Nodup) (hm : ∀ i ∈ ix, i < m) : Cv (pX As val (List.range m) L) (pX As val ix L) := by
 have hp : (List.range m).Perm (((List.range m).filter fun i => !ix.contains i) ++ ix) := by
  refine (List.perm_ext_iff_of_nodup List.nodup_range ?_).2 fun k => ?_
  ·refine List.nodup_append.2 ⟨List.nodup_range.filter _, hn, fun x hx y hy e => ?_⟩
   subst e
   have h1 := (List.mem_filter.1 hx).2
   rw [List.contains_iff_mem.2 hy] at h1; cases h1
  rw [List.mem_append, List.mem_filter, List.mem_range]
  by_cases h : k ∈ ix
  ·simp [h, hm k h]
  simp [h]
 have e := qu (As := As) (val := val) hp
 rw [List.flatMap_append] at e
 unfold pX
 refine Cv.trans (fun Z w h => SepL.perm h ((e.append_right L).append_right Z)) ?_
 rw [List.append_assoc]
 exact vd _
theorem fo {X : Cx} {K : K3} {s : bu} {L L0 : List Chunk} {id : Nat} {l : List Oper} (hm : X.P.follows .mixedOrders = true) (m : Nat) (qs : List Nat) (ix : List Nat) (ds : List Nat) (pr : List (List Nat)) (As : List Asn) (Bs : List (List Chunk)) (hL : Cv L0 (wN m (Array.replicate l.length false) Bs ++ L)) (hBq : ∀ q ∈ qs, Bs.getD q [] = []) (hok : C4 l.toArray m qs ds pr s X.n = true) (hlen : Nat.beq As.length m = true) (hix : (ix.all (fun i => Nat.blt i m) && decide ix.Nodup) = true)
  (qstep : ∀ q ∈ qs, ∀ (o : Oper), q < m → l.toArray[q]? = some o → AP ds As (pr.getD q []) (fun s' L' => CX X.P l.toArray s' L' L' o (As.getD q (aV undef)).full) s L)
  (step : ∀ (i : Nat) (o : Oper), i < m → l.toArray[i]? = some o → uT ds As (pr.getD i []) (fun s' L' L'' => xC X.P l.toArray s' L' L'' o (As.getD i (aV undef)).full) s (Bs.getD i [] ++ L) L)
  (fin : AP ds As ix (fun s' L' => vv X l.toArray K (l.length - m) (i6 (Array.replicate l.length false) (List.range m)) s' L') s L) : Wq X (.region id l.toArray true) K s L0 := by
 have hl : As.length = m := Nat.eq_of_beq_eq_true hlen
 have hpr : ∀ i, i < m → ∀ k ∈ pr.getD i [], k < As.length := fun i hi k hk => by
  unfold C4 at hok
  simp only [Bool.and_eq_true, List.all_eq_true, List.mem_range] at hok
  have h6 := (hok.1.2 i hi).1.1.2 k hk
  have h7 := Nat.le_of_ble_eq_true h6.2
  omega
 simp only [Bool.and_eq_true, List.all_eq_true, decide_eq_true_eq] at hix
 have hixm : ∀ i ∈ ix, i < m := fun i hi => Nat.lt_of_succ_le (Nat.le_of_ble_eq_true (hix.1 i hi))
 have hds : (∀ i j, i < m → j < m → ds.getD i 0 = ds.getD j 0 → i = j) ∧ ∀ i, i < m → ∀ k v, eb s k = some v → k ≠ ds.getD i 0 := by
  have hok2 := hok
  unfold C4 at hok2
  simp only [Bool.and_eq_true, decide_eq_true_eq, List.all_eq_true, List.mem_range] at hok2
  obtain ⟨⟨⟨⟨⟨⟨⟨⟨-, -⟩, -⟩, -⟩, h3⟩, h4⟩, h5⟩, -⟩, -⟩ := hok2
  refine ⟨fun i j hi hj e => ?_, fun i hi k v hp e => ?_⟩
  ·have e1 : ds.getD i 0 = ds[i]'(by omega) := by simp [List.getD, h3, hi]
   have e2 : ds.getD j 0 = ds[j]'(by omega) := by simp [List.getD, h3, hj]
   rw [e1, e2] at e
   have hp := List.pairwise_iff_getElem.1 h4
   rcases Nat.lt_trichotomy i j with h | h | h
   ·exact absurd e (hp i j (by omega) (by omega) h)
   ·exact h
   exact absurd e.symm (hp j i (by omega) (by omega) h)
  have hmem : ds.getD i 0 ∈ ds := by
   have e1 : ds.getD i 0 = ds[i]'(by omega) := by simp [List.getD, h3, hi]
   rw [e1]; exact List.getElem_mem _
  have h9 := (h5 _ hmem).2 _ (ku _ _ _ hp)
  simp only [e, Nat.beq_refl] at h9
  cases h9
 refine BC hm m qs ds pr (jH As) Bs hL hBq hok (fun q hq o hqm ho val => ?_) (fun i o him ho val => ?_) fun val => ?_
 ·rw [pv _ _ (by omega)]
  exact yO (hpr q hqm) (qstep q hq o hqm ho)
 ·rw [pv _ _ (by omega)]
  exact yA (hpr i him) (step i o him ho)
 refine jN (Cj (fun i hi => by have := hixm i hi; omega) fin) (fun k v hk => ?_) (zC hix.2 hixm)
 unfold r8 at hk ⊢
 by_cases hex : ∃ i ∈ ix, ds.getD i 0 = k
 ·obtain ⟨i, hi, rfl⟩ := hex
  rw [rp ix (fun a ha b hb e => hds.1 a b (hixm a ha) (hixm b hb) e) i hi] at hk
  rw [rp (List.range m) (fun a ha b hb e => hds.1 a b (List.mem_range.1 ha) (List.mem_range.1 hb) e) i (List.mem_range.2 (hixm i hi))]
  exact hk
 rw [pp ix fun i hi e => hex ⟨i, hi, e⟩] at hk
 rw [pp (List.range m) fun i hi e => hds.2 i (List.mem_range.1 hi) k v hk e.symm]
 exact hk
section
variable {P : Program} {s : bu} {C : World → Prop} {d : Option Nat} {ty : TypeId} {pos : String} {af : Array Edge} {gd : Option (Nat × Bool)}
end
end Go.Proofs.Ytmbaennilhdieaa
namespace Go.Proofs.Ytmbaennilhdieaa
open Go.RowKit
def AA (e : TypeId) (sz : Nat) (v : Value) : Chunk where
 ok T _ w := ∃ g n cap cur, v = .slice (some ⟨g, 0, none⟩) n cap ∧ T g ∧ w.heap[g]? = some (.cells cur e (0, 0)) ∧ n ≤ cap ∧ cap ≤ maxLen ∧ cur.size = cap * sz
 loc := fun h ⟨g, n, cap, cur, e1, h1, h2, h3⟩ => ⟨g, n, cap, cur, e1, h1, Blk.agr (t := e) h2 h (.inl h1), h3⟩
 mono := fun _ h => h
 ro := false
 dup := fun h => Bool.noConfusion h
section
variable {P : Program} {s : bu} {L : List Chunk} {d : Option Nat} {ty : TypeId} {pos : String} {af : Array Edge} {gd : Option (Nat × Bool)}
theorem re {x y : Operand} {t tn e : TypeId} {n : Int} {k kn : IntKind} {sz by_ : Nat} (hx : bC s x = some (.slice none 0 0)) (hy : bC s y = some (.int k n)) (ht : P.underlying t = some (.slice e)) (htn : P.underlying tn = some (.int kn)) (hz : qy P e sz by_ = true) (hby : Nat.ble by_ 127 = true) (h0 : 0 < n) (hb : n ≤ 1099511627776) : OpX P s L ⟨d, .call ⟨.builtin .append, #[x, y], #[t, tn]⟩, ty, pos, af, gd⟩ fun u L' => ∃ A n c, u = .slice A n c ∧ L' = AA e sz (.slice A n c) :: L := fun ρ hρ Z w hw => by
 have hbuilt := fT (P := P) (ρ := ρ) (d := d) (ty := ty) (pos := pos) (af := af) (gd := gd) (b := .append) (xs := [x, y]) (ats := #[t, tn]) (vs := [.slice none 0 0, .int k n]) (by simp [hρ x _ hx, hρ y _ hy]) w
 have hby' := Nat.le_of_ble_eq_true hby
 obtain ⟨m, rfl⟩ : ∃ m : Nat, n = m := ⟨n.toNat, by omega⟩
 unfold qy at hz
 cases hinfo : P.info? e with
 | none => rw [hinfo] at hz; cases hz
 | some inf =>
  rw [hinfo] at hz
  simp only [Bool.and_eq_true] at hz
  obtain ⟨⟨⟨q2, q3⟩, q4⟩, q5⟩ := hz
  cases hzz : inf.zero with
  | none => rw [hzz] at q4; cases q4
  | some z =>
   rw [hzz] at q4
   have e2 := Nat.eq_of_beq_eq_true q2
   have e3 := Nat.eq_of_beq_eq_true q3
   have e4 := Nat.eq_of_beq_eq_true q4
   have e5 : 0 < sz := by have h6 : 1 ≤ sz := (by simpa [Nat.blt] using q5); omega
   have hm : m * inf.bytes ≤ 281474976710656 := Nat.le_trans (Nat.mul_le_mul (show m ≤ 1099511627776 by omega) (show inf.bytes ≤ 127 by omega)) (by decide)
   have hr := Lib.run_append_nil_zeros (P := P) w t tn ty e inf z k kn ht htn hinfo hzz m (by omega) (by omega) (by omega) hm
   have hge := grownCap_ge w m 0 e
   have hcm := grownCap_le_maxLen w m 0 e (by unfold maxLen; omega)
   have hcur : (Builtin.zeroCells z.cells m ++ Builtin.zeroCells z.cells (grownCap w m 0 e - m)).size = grownCap w m 0 e * sz := by
    simp only [Array.size_append, size_zeroCells, e4, ← Nat.add_mul]
    congr 1
    omega
   generalize Builtin.zeroCells z.cells m ++ Builtin.zeroCells z.cells (grownCap w m 0 e - m) = cur at *
   have hA : Agr (fun _ => True) w (w.drew.alloc (.cells cur e)) := ⟨rfl, rfl, rfl, by simp, fun q hq _ => heap_alloc_old w.drew (.cells cur e) hq⟩
   have hN : (w.drew.alloc (.cells cur e)).heap[w.heap.size]? = some (.cells cur e (0, 0)) := heap_alloc_new w.drew (.cells cur e)
   have hZ : (w.drew.alloc (.cells cur e)).heap.size = w.heap.size + 1 := by simp
   refine .inl ⟨_, w.drew.alloc (.cells cur e), AA e sz (.slice (some ⟨w.heap.size, 0, none⟩) m (grownCap w m 0 e)) :: L, ?_, SepL.new (c := AA e sz (.slice (some ⟨w.heap.size, 0, none⟩) m (grownCap w m 0 e))) hw hA fun T S _ => ⟨(· = w.heap.size), fun q hq => by subst hq; omega, w.heap.size, m, grownCap w m 0 e, cur, rfl, rfl, hN, hge, hcm, hcur⟩, _, _, _, rfl, rfl⟩
   rw [hbuilt]
   simp only [builtin, Sem.run_bind]
   have hr' : (Builtin.append_ #[t, tn] ty [Value.slice none 0 0, .int k (m : Int)].toArray).run P w = _ := hr
   rw [hr']
   rfl
theorem wT {α : Type} {R : Rep α} {t e sz : Nat} {x y : Operand} {v : Value} (i : Nat) (hi : L[i]? = some (AA e sz v)) (hx : bC s x = some v) (hu : P.underlying t = some (.slice e)) (hs : dV P e sz = true) (hsz : R.sz = sz) (hh : bC s y = some (.int .i64 0)) : OpX P s L ⟨d, .slice t x none (some y) none, ty, pos, af, gd⟩ fun u L' => ∃ A n c, u = .slice A n c ∧ L' = L.set i (gj R e (.slice A n c) []) := fun ρ hρ Z w hw => by
 have hw0 := hw
 obtain ⟨T, S, hT⟩ := hw
 obtain ⟨g, n, cap, cur, rfl, g1, g2, g3, g4, g5⟩ := hT.ok (bA hi)
 have hrun := mf (P := P) (C := fun _ => True) (d := d) (ty := ty) (pos := pos) (af := af) (gd := gd) (lo := none) (hi := some y) (l := 0) (h := 0) hx hu hs rfl hh (Nat.le_refl _) (by omega) ρ hρ w trivial
 have hc : jW (some ⟨g, 0, none⟩) cap 0 sz = some ⟨g, 0, none⟩ := by
  unfold jW
  split
  ·rfl
  simp [Addr.add]
 rw [hc] at hrun
 refine .inl ⟨_, w, L.set i (gj R e (.slice (some ⟨g, 0, none⟩) 0 cap) []), hrun, ?_, _, _, _, rfl, rfl⟩
 have hfin : SepL ((L ++ Z).set i (gj R e (.slice (some ⟨g, 0, none⟩) 0 cap) [])) w := by
  refine hw0.weak (bA hi) fun T S ⟨g', n', cap', cur', e1, q1, q2, q3, q4, q5⟩ => ?_
  obtain ⟨e2, rfl, rfl⟩ := Value.slice.inj e1
  cases e2
  exact ⟨[], .nil, .inl ⟨⟨by simp, .inr ⟨g, cap, cur', rfl, Nat.zero_le _, q2, Nat.zero_le _, q4, by rw [hsz]; exact q5, by simp⟩⟩, fun q hq => by cases hq; exact q1⟩⟩
 rw [ma Z hi] at hfin
 exact hfin
theorem sG {C : World → Prop} {t e sz : Nat} {x y : Operand} (hx : bC s x = some (.slice none 0 0)) (hu : P.underlying t = some (.slice e)) (hs : dV P e sz = true) (hh : bC s y = some (.int .i64 0)) : Ev P s C ⟨d, .slice t x none (some y) none, ty, pos, af, gd⟩ (.slice none 0 0) :=
 mf (lo := none) (hi := some y) (l := 0) (h := 0) hx hu hs rfl hh (Nat.le_refl _) (Nat.le_refl _)
theorem nD {t e : TypeId} {m : Nat} {ps : List (Nat × Operand)} {vs : List (Nat × Value)} {cs : List Value} (hp : BP s ps = some vs) (hr : ∀ w, (Instr.buildSlice t m vs.toArray).run P w = .ok (.slice (some ⟨w.heap.size, 0, none⟩) m m) (w.alloc (.cells cs.toArray e))) : OpX P s L ⟨d, .buildSlice t m ps.toArray, ty, pos, af, gd⟩ fun u L' => ∃ b, u = .slice (some ⟨b, 0, none⟩) m m ∧ L' = aq b e cs :: L := fun ρ hρ Z w hw => by
 refine .inl ⟨_, w.alloc (.cells cs.toArray e), aq w.heap.size e cs :: L, ?_, SepL.new (c := aq w.heap.size e cs) hw (Agr.of_ext ((Ext.refl w).alloc _)) fun _ S _ => ⟨(· = w.heap.size), fun q hq => ?_, rfl, Blk.new w e _⟩, _, rfl, rfl⟩
 ·unfold execOp; simp only [List.map_toArray, qr hρ hp, Sem.run_bind, hr, Result.andThen_ok]; rfl
 subst hq; simp
end
def Wr (X : Cx) (c : Code) (K : K3) (m : Nat) (s : bu) (L : List Chunk) : Prop := ∀ (H : List Chunk) (Ds : List Nat) (a : Act) (w : World), Fx X s a → a.defers = Ds.map lq → Sp (Ds.map bx ++ H) L w → Code.roundsIn (rN X.r) 0 X.P c (mY X H K) m a w
section
variable {X : Cx} {K : K3} {s : bu} {L : List Chunk}
theorem ms {c : Code} (m : Nat) (h : Wr X c K m s L) : Wq X (.loop c) K s L := fun H Ds a w ha hd hw => wpIn_loop_rounds m (h H Ds a w ha hd hw)
theorem nN {c : Code} {m : Nat} (h : Wq X c (nx (fun s L => Wr X c K m s L) K) s L) : Wr X c K (m + 1) s L := fun H Ds a w ha hd hw => by
 rw [roundsIn_succ]
 refine wpIn_mono (h H Ds a w ha hd hw) ?_
 rintro e a' w' ⟨s', L', Ds', h1, h2, h3, h4⟩
 cases e with
 | normal => exact h4 H Ds' a' w' h1 h2 h3
 | _ => exact ⟨s', L', Ds', h1, h2, h3, h4⟩
end
end Go.Proofs.Ytmbaennilhdieaa
namespace Go.Proofs.Ytmbaennilhdieaa
open Go.RowKit
def CQ (s : bu) : bu → Prop
 | [] => True
 |(d, v) :: t => eb s d = some v ∧ CQ s t
theorem ur {s : bu} : ∀ {t : bu}, CQ s t → qw s t
 | [], _ => wO
 |(_, _) :: _, h => gW h.1 (ur h.2)
theorem sA {s t : bu} (h : CQ s t := by repeat (first | exact trivial | refine ⟨rfl, ?_⟩)) : qw s t := ur h
section
variable {X : Cx} {ops : Array Oper} {K : K3} {s : bu} {L : List Chunk} {rest : List Oper} {d : Nat} {op : Op} {ty : TypeId} {pos : String} {af : Array Edge} {gd : Option (Nat × Bool)}
theorem gD {R : Value → List Chunk → Prop} (h : OpX X.P s L ⟨some d, op, ty, pos, af, gd⟩ R) (k : ∀ v L', R v L' → cj X ops rest K ((d, v) :: s) L') (hn : f0 ⟨some d, op, ty, pos, af, gd⟩ = true := by rfl) (hg : bo ops s ⟨some d, op, ty, pos, af, gd⟩ = some true := by rfl) (hd : Nat.ble (d + 1) X.n = true := by rfl) : cj X ops (⟨some d, op, ty, pos, af, gd⟩ :: rest) K s L := bM h hn hg hd k
theorem gO {R : Value → List Chunk → Prop} (h : OpX X.P s L ⟨none, op, ty, pos, af, gd⟩ R) (k : ∀ v L', R v L' → cj X ops rest K s L') (hn : f0 ⟨none, op, ty, pos, af, gd⟩ = true := by rfl) (hg : bo ops s ⟨none, op, ty, pos, af, gd⟩ = some true := by rfl) : cj X ops (⟨none, op, ty, pos, af, gd⟩ :: rest) K s L := Dp h hn hg k
theorem gE {v : Value} (h : Ev X.P s (fun _ => True) ⟨some d, op, ty, pos, af, gd⟩ v) (k : cj X ops rest K ((d, v) :: s) L) (hn : f0 ⟨some d, op, ty, pos, af, gd⟩ = true := by rfl) (hg : bo ops s ⟨some d, op, ty, pos, af, gd⟩ = some true := by rfl) (hd : Nat.ble (d + 1) X.n = true := by rfl) : cj X ops (⟨some d, op, ty, pos, af, gd⟩ :: rest) K s L := kc h hn hg hd k
theorem gR {v : Value} (h : Rd X.P s L ⟨some d, op, ty, pos, af, gd⟩ v) (k : cj X ops rest K ((d, v) :: s) L) (hn : f0 ⟨some d, op, ty, pos, af, gd⟩ = true := by rfl) (hg : bo ops s ⟨some d, op, ty, pos, af, gd⟩ = some true := by rfl) (hd : Nat.ble (d + 1) X.n = true := by rfl) : cj X ops (⟨some d, op, ty, pos, af, gd⟩ :: rest) K s L := aZ h hn hg hd k
end
abbrev iV (z : Int) : Value := .int .i64 z
abbrev pV (b o : Nat) : Value := .pointer (some ⟨b, o, none⟩)
end Go.Proofs.Ytmbaennilhdieaa
namespace Go.Proofs
open Go.Shelf
def Try.lays128_ren : Go.Shelf.Ren := ⟨fun | 128 => 132 | n => n, fun | 51 => 134 | 3 => 3 | 4 => 4 | 46 => 105 | 5 => 5 | 9 => 9 | n => n, fun | n => n⟩
theorem Try.lays128 : Go.Proofs.Lays.n128 Try.prog Try.lays128_ren := {
 mixed := by kernel_rfl
 f128 := Try.func132.trans (congrArg some (by kernel_rfl))
 t3 := Try.underlying3
 a3 := Try.isAgg3
 z3 := Try.sizeOf3
 v3 := Try.zeroValue3
 t4 := Try.underlying4
 a4 := Try.isAgg4
 z4 := Try.sizeOf4
 v4 := Try.zeroValue4
 t5 := Try.underlying5
 a5 := Try.isAgg5
 z5 := Try.sizeOf5
 v5 := Try.zeroValue5
 t9 := Try.underlying9
 a9 := Try.isAgg9
 z9 := Try.sizeOf9
 v9 := Try.zeroValue9
 t46 := Try.underlying105
 a46 := Try.isAgg105
 z46 := Try.sizeOf105
 v46 := Try.zeroValue105
 t51 := Try.underlying134
 a51 := Try.isAgg134
 z51 := Try.sizeOf134
 v51 := Try.zeroValue134 }
theorem Try.bits_Len32 (x : Int) (w : World) (h0 : 0 ≤ x) (h1 : x ≤ 4294967295) :
  Calls Try.prog 132 #[.int .u32 x] w fun e w' => e = .returned (.int .i64 (Lib.bitLen x.toNat)) ∧ w' = w := Any.bits_Len32 Try.lays128 x w h0 h1
def Try.lays125_ren : Go.Shelf.Ren := ⟨fun | 125 => 89 | 128 => 132 | 129 => 133 | n => n, fun | 46 => 105 | 3 => 3 | 51 => 134 | 53 => 136 | 4 => 4 | 5 => 5 | 9 => 9 | n => n, fun | n => n⟩
theorem Try.lays125 : Go.Proofs.Lays.n125 Try.prog Try.lays125_ren := {
 mixed := by kernel_rfl
 f125 := Try.func89.trans (congrArg some (by kernel_rfl))
 f128 := Try.func132.trans (congrArg some (by kernel_rfl))
 f129 := Try.func133.trans (congrArg some (by kernel_rfl))
 t3 := Try.underlying3
 a3 := Try.isAgg3
 z3 := Try.sizeOf3
 v3 := Try.zeroValue3
 t4 := Try.underlying4
 a4 := Try.isAgg4
 z4 := Try.sizeOf4
 v4 := Try.zeroValue4
 t5 := Try.underlying5
 a5 := Try.isAgg5
 z5 := Try.sizeOf5
 v5 := Try.zeroValue5
 t9 := Try.underlying9
 a9 := Try.isAgg9
 z9 := Try.sizeOf9
 v9 := Try.zeroValue9
 t46 := Try.underlying105
 a46 := Try.isAgg105
 z46 := Try.sizeOf105
 v46 := Try.zeroValue105
 t51 := Try.underlying134
 a51 := Try.isAgg134
 z51 := Try.sizeOf134
 v51 := Try.zeroValue134
 t53 := Try.underlying136
 a53 := Try.isAgg136
 z53 := Try.sizeOf136
 v53 := Try.zeroValue136 }
theorem Try.bits_Len (x : Int) (w : World) (h0 : 0 ≤ x) (h1 : x ≤ 18446744073709551615) :
  Calls Try.prog 89 #[.int .u64 x] w fun e w' => e = .returned (.int .i64 (Lib.bitLen x.toNat)) ∧ w' = w := Any.bits_Len Try.lays125 x w h0 h1
def Try.lays215_ren : Go.Shelf.Ren := ⟨fun | 215 => 149 | n => n, fun | 3 => 3 | 4 => 4 | n => n, fun | n => n⟩
theorem Try.lays215 : Go.Proofs.Lays.n215 Try.prog Try.lays215_ren := {
 mixed := by kernel_rfl
 f215 := Try.func149.trans (congrArg some (by kernel_rfl))
 t3 := Try.underlying3
 a3 := Try.isAgg3
 z3 := Try.sizeOf3
 v3 := Try.zeroValue3
 t4 := Try.underlying4
 a4 := Try.isAgg4
 z4 := Try.sizeOf4
 v4 := Try.zeroValue4 }
open Go.RowKit in
theorem Try.cmp_isNaN_int (x : Int) (w : World) :
  Calls Try.prog 149 #[.int .i64 x] w fun e w' => e = .returned (.bool false) ∧ w' = w := Any.cmp_isNaN_int Try.lays215 x w
def Try.lays129_ren : Go.Shelf.Ren := ⟨fun | 129 => 133 | n => n, fun | 53 => 136 | 3 => 3 | 4 => 4 | 46 => 105 | 5 => 5 | 9 => 9 | n => n, fun | n => n⟩
theorem Try.lays129 : Go.Proofs.Lays.n129 Try.prog Try.lays129_ren := {
 mixed := by kernel_rfl
 f129 := Try.func133.trans (congrArg some (by kernel_rfl))
 t3 := Try.underlying3
 a3 := Try.isAgg3
 z3 := Try.sizeOf3
 v3 := Try.zeroValue3
 t4 := Try.underlying4
 a4 := Try.isAgg4
 z4 := Try.sizeOf4
 v4 := Try.zeroValue4
 t5 := Try.underlying5
 a5 := Try.isAgg5
 z5 := Try.sizeOf5
 v5 := Try.zeroValue5
 t9 := Try.underlying9
 a9 := Try.isAgg9
 z9 := Try.sizeOf9
 v9 := Try.zeroValue9
 t46 := Try.underlying105
 a46 := Try.isAgg105
 z46 := Try.sizeOf105
 v46 := Try.zeroValue105
 t53 := Try.underlying136
 a53 := Try.isAgg136
 z53 := Try.sizeOf136
 v53 := Try.zeroValue136 }
theorem Try.bits_Len64 (x : Int) (w : World) (h0 : 0 ≤ x) (h1 : x ≤ 18446744073709551615) :
  Calls Try.prog 133 #[.int .u64 x] w fun e w' => e = .returned (.int .i64 (Lib.bitLen x.toNat)) ∧ w' = w := Any.bits_Len64 Try.lays129 x w h0 h1
def Try.lays189_ren : Go.Shelf.Ren := ⟨fun | 189 => 48 | 125 => 89 | 257 => 88 | 128 => 132 | 129 => 133 | 294 => 123 | 295 => 124 | 296 => 125 | 297 => 126 | 298 => 127 | 299 => 128 | 216 => 129 | 300 => 130 | 301 => 131 | 328 => 144 | 329 => 145 | 330 => 146 | 331 => 147 | 332 => 148 | 215 => 149 | 343 => 156 | n => n, fun | 28 => 31 | 3 => 3 | 46 => 105 | 0 => 0 | 51 => 134 | 53 => 136 | 4 => 4 | 183 => 128 | 182 => 127 | 131 => 92 | 5 => 5 | 9 => 9 | 218 => 151 | 222 => 155 | 228 => 158 | 229 => 159 | n => n, fun | n => n⟩
theorem Try.lays189 : Go.Proofs.Lays.n189 Try.prog Try.lays189_ren := {
 mixed := by kernel_rfl
 f125 := Try.func89.trans (congrArg some (by kernel_rfl))
 f128 := Try.func132.trans (congrArg some (by kernel_rfl))
 f129 := Try.func133.trans (congrArg some (by kernel_rfl))
 f189 := Try.func48.trans (congrArg some (by kernel_rfl))
 f215 := Try.func149.trans (congrArg some (by kernel_rfl))
 f216 := Try.func129.trans (congrArg some (by kernel_rfl))
 f257 := Try.func88.trans (congrArg some (by kernel_rfl))
 f294 := Try.func123.trans (congrArg some (by kernel_rfl))
 f295 := Try.func124.trans (congrArg some (by kernel_rfl))
 f296 := Try.func125.trans (congrArg some (by kernel_rfl))
 f297 := Try.func126.trans (congrArg some (by kernel_rfl))
 f298 := Try.func127.trans (congrArg some (by kernel_rfl))
 f299 := Try.func128.trans (congrArg some (by kernel_rfl))
 f300 := Try.func130.trans (congrArg some (by kernel_rfl))
 f301 := Try.func131.trans (congrArg some (by kernel_rfl))
 f328 := Try.func144.trans (congrArg some (by kernel_rfl))
 f329 := Try.func145.trans (congrArg some (by kernel_rfl))
 f330 := Try.func146.trans (congrArg some (by kernel_rfl))
 f331 := Try.func147.trans (congrArg some (by kernel_rfl))
 f332 := Try.func148.trans (congrArg some (by kernel_rfl))
 f343 := Try.func156.trans (congrArg some (by kernel_rfl))
 t0 := Try.underlying0
 a0 := Try.isAgg0
 z0 := Try.sizeOf0
 v0 := Try.zeroValue0
 t3 := Try.underlying3
 a3 := Try.isAgg3
 z3 := Try.sizeOf3
 v3 := Try.zeroValue3
 t4 := Try.underlying4
 a4 := Try.isAgg4
 z4 := Try.sizeOf4
 v4 := Try.zeroValue4
 t5 := Try.underlying5
 a5 := Try.isAgg5
 z5 := Try.sizeOf5
 v5 := Try.zeroValue5
 t9 := Try.underlying9
 a9 := Try.isAgg9
 z9 := Try.sizeOf9
 v9 := Try.zeroValue9
 t28 := Try.underlying31
 a28 := Try.isAgg31
 z28 := Try.sizeOf31
 v28 := Try.zeroValue31
 t46 := Try.underlying105
 a46 := Try.isAgg105
 z46 := Try.sizeOf105
 v46 := Try.zeroValue105
 t51 := Try.underlying134
 a51 := Try.isAgg134
 z51 := Try.sizeOf134
 v51 := Try.zeroValue134
 t53 := Try.underlying136
 a53 := Try.isAgg136
 z53 := Try.sizeOf136
 v53 := Try.zeroValue136
 t131 := Try.underlying92
 a131 := Try.isAgg92
 z131 := Try.sizeOf92
 v131 := Try.zeroValue92
 t182 := Try.underlying127
 a182 := Try.isAgg127
 z182 := Try.sizeOf127
 v182 := Try.zeroValue127
 t183 := Try.underlying128
 a183 := Try.isAgg128
 z183 := Try.sizeOf128
 v183 := Try.zeroValue128
 t218 := Try.underlying151
 a218 := Try.isAgg151
 z218 := Try.sizeOf151
 v218 := Try.zeroValue151
 t222 := Try.underlying155
 a222 := Try.isAgg155
 z222 := Try.sizeOf155
 v222 := Try.zeroValue155
 t228 := Try.underlying158
 a228 := Try.isAgg158
 z228 := Try.sizeOf158
 v228 := Try.zeroValue158
 t229 := Try.underlying159
 a229 := Try.isAgg159
 z229 := Try.sizeOf159
 v229 := Try.zeroValue159 }
open Go.Sort Go.RowKit in
theorem Try.slices_Sort_int (CW off cap : Nat) (zs : List Int) (w : World) (hH : Holds (Value.int .i64) w CW off zs.toArray) (hblk : CW < w.heap.size) (hsz : zs.length < 4611686018427387904) :
  Calls Try.prog 48 #[.slice (some ⟨CW, off, none⟩) zs.length cap] w fun e w' =>
   e = .returned (.tuple #[]) ∧ ∃ n os, w' = grow (putRow (Value.int .i64) (Sort.ahead w n) CW off (zs.mergeSort fun x y => decide (x ≤ y)).toArray) os := Any.slices_Sort_int Try.lays189 CW off cap zs w hH hblk hsz
def Try.lays108_ren : Go.Shelf.Ren := ⟨fun | 108 => 78 | n => n, fun | 28 => 31 | 3 => 3 | 0 => 0 | 4 => 4 | n => n, fun | n => n⟩
theorem Try.lays108 : Go.Proofs.Lays.n108 Try.prog Try.lays108_ren := {
 mixed := by kernel_rfl
 f108 := Try.func78.trans (congrArg some (by kernel_rfl))
 t0 := Try.underlying0
 a0 := Try.isAgg0
 z0 := Try.sizeOf0
 v0 := Try.zeroValue0
 t3 := Try.underlying3
 a3 := Try.isAgg3
 z3 := Try.sizeOf3
 v3 := Try.zeroValue3
 t4 := Try.underlying4
 a4 := Try.isAgg4
 z4 := Try.sizeOf4
 v4 := Try.zeroValue4
 t28 := Try.underlying31
 a28 := Try.isAgg31
 z28 := Try.sizeOf31
 v28 := Try.zeroValue31 }
open Go.Lib in
theorem Try.slices_Index_int (b off n c : Nat) (zs : List Int) (x : Int) (w : World) (hz : n ≤ zs.length) (hbig : n ≤ 9223372036854775807) (hc : ∀ j, j < zs.length → w.cell? ⟨b, off + j, none⟩ = some (.int .i64 (zs.getD j 0))) :
  Calls Try.prog 78 #[.slice (some ⟨b, off, none⟩) n c, .int .i64 x] w fun e w' => e = .returned (.int .i64 (Lib.idxOf (zs.take n) x)) ∧ w' = w := Any.slices_Index_int Try.lays108 b off n c zs x w hz hbig hc
open Go.Lib in
theorem Try.slices_Index_int_empty (a : Option Addr) (c : Nat) (x : Int) (w : World) :
  Calls Try.prog 78 #[.slice a 0 c, .int .i64 x] w fun e w' => e = .returned (.int .i64 (Lib.idxOf [] x)) ∧ w' = w := Any.slices_Index_int_empty Try.lays108 a c x w
def Try.lays107_ren : Go.Shelf.Ren := ⟨fun | 107 => 35 | 108 => 78 | n => n, fun | 28 => 31 | 3 => 3 | 4 => 4 | 0 => 0 | n => n, fun | n => n⟩
theorem Try.lays107 : Go.Proofs.Lays.n107 Try.prog Try.lays107_ren := {
 mixed := by kernel_rfl
 f107 := Try.func35.trans (congrArg some (by kernel_rfl))
 f108 := Try.func78.trans (congrArg some (by kernel_rfl))
 t0 := Try.underlying0
 a0 := Try.isAgg0
 z0 := Try.sizeOf0
 v0 := Try.zeroValue0
 t3 := Try.underlying3
 a3 := Try.isAgg3
 z3 := Try.sizeOf3
 v3 := Try.zeroValue3
 t4 := Try.underlying4
 a4 := Try.isAgg4
 z4 := Try.sizeOf4
 v4 := Try.zeroValue4
 t28 := Try.underlying31
 a28 := Try.isAgg31
 z28 := Try.sizeOf31
 v28 := Try.zeroValue31 }
open Go.Lib in
theorem Try.slices_Contains_int (b off n c : Nat) (zs : List Int) (x : Int) (w : World) (hz : n ≤ zs.length) (hbig : n ≤ 9223372036854775807) (hc : ∀ j, j < zs.length → w.cell? ⟨b, off + j, none⟩ = some (.int .i64 (zs.getD j 0))) :
  Calls Try.prog 35 #[.slice (some ⟨b, off, none⟩) n c, .int .i64 x] w fun e w' => e = .returned (.bool ((zs.take n).contains x)) ∧ w' = w := Any.slices_Contains_int Try.lays107 b off n c zs x w hz hbig hc
open Go.Lib in
theorem Try.slices_Contains_int_empty (a : Option Addr) (c : Nat) (x : Int) (w : World) :
  Calls Try.prog 35 #[.slice a 0 c, .int .i64 x] w fun e w' => e = .returned (.bool false) ∧ w' = w := Any.slices_Contains_int_empty Try.lays107 a c x w
def Try.laysNm237_ren : Go.Shelf.Ren := ⟨fun | 37 => 149 | n => n, fun | 3 => 3 | 4 => 4 | n => n, fun | n => n⟩
theorem Try.laysNm237 : Go.Proofs.Lays2.n37 Try.prog Try.laysNm237_ren := {
 mixed := by kernel_rfl
 f37 := Try.func149.trans (congrArg some (by kernel_rfl))
 t3 := Try.underlying3
 a3 := Try.isAgg3
 z3 := Try.sizeOf3
 v3 := Try.zeroValue3
 t4 := Try.underlying4
 a4 := Try.isAgg4
 z4 := Try.sizeOf4
 v4 := Try.zeroValue4 }
open Go.RowKit Go.Lib in
theorem Try.cmp_isNaN_int2 (x : Int) (w : World) :
  Calls Try.prog 149 #[.int .i64 x] w fun e w' => e = .returned (.bool false) ∧ w' = w := Any.cmp_isNaN_int2 Try.laysNm237 x w
def Try.laysNm231_ren : Go.Shelf.Ren := ⟨fun | 31 => 129 | 37 => 149 | n => n, fun | 3 => 3 | 4 => 4 | n => n, fun | n => n⟩
theorem Try.laysNm231 : Go.Proofs.Lays2.n31 Try.prog Try.laysNm231_ren := {
 mixed := by kernel_rfl
 f31 := Try.func129.trans (congrArg some (by kernel_rfl))
 f37 := Try.func149.trans (congrArg some (by kernel_rfl))
 t3 := Try.underlying3
 a3 := Try.isAgg3
 z3 := Try.sizeOf3
 v3 := Try.zeroValue3
 t4 := Try.underlying4
 a4 := Try.isAgg4
 z4 := Try.sizeOf4
 v4 := Try.zeroValue4 }
open Go.RowKit Go.Lib in
theorem Try.cmp_Less_int2 (x y : Int) (w : World) :
  Calls Try.prog 129 #[.int .i64 x, .int .i64 y] w fun e w' => e = .returned (.bool (decide (x < y))) ∧ w' = w := Any.cmp_Less_int2 Try.laysNm231 x y w
open Go.RowKit Go.Sort in
theorem Try.slices_Sort_int_none (p : Option Addr) (cap : Nat) (w : World) :
  Calls Try.prog 48 #[.slice p 0 cap] w fun e w' => e = .returned (.tuple #[]) ∧ w' = w := Any.slices_Sort_int_none Try.lays189 p cap w
end Go.Proofs
namespace Go.Proofs.Ytmbaennilhdieaa
open Go.RowKit Go.Lib Go.Sort
abbrev D3 (z : Int) : Value := .int .i64 z
def CZ (zs : List Int) : List Int := zs.mergeSort fun x y => decide (x ≤ y)
def Am (_ : Nat) (a0 : List Int) : Option (List Int) := bD (cu a0.length) (some (CZ a0))
end Go.Proofs.Ytmbaennilhdieaa