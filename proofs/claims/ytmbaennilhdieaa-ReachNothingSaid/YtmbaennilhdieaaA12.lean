/- The walk over chunks: loops over functions that are left; results in cells; stores into elements; views of growing slices. Over any program. -/
import Derived.Test.YtmbaennilhdieaaA11
namespace Go.Proofs.Ytmbaennilhdieaa
open Go.RowKit

/-! loops over functions -/
def caseX {ρ : Type} (e : Option Exit) (n r : Option ρ) (x : Nat → Option ρ) : Option ρ := match e with
  | none => n
  | some .ret => r
  | some (.exit i) => x i
  | some _ => none
theorem K3_norm {K : K3} {e : Exit} {s : Env} {L' : List Chunk} (L : List Chunk) (h : L' = L) (k : K e s L) : K e s L' := h ▸ k
/-- what is packed is opened at the end -/
theorem G_pmono {X : Cx} {K K' : K3} {s : Env} {L : List Chunk} {c : Code} (h : Wq X c K' s L) (hk : ∀ e s L, K' e s L → ∃ (ι : Type) (Q : ι → List Chunk), L = [packC Q] ∧ ∀ x, K e s (Q x)) : Wq X c K s L := fun H Ds a w ha hd hw => wpIn_mono (h H Ds a w ha hd hw) fun e a' w' ⟨s', L', Ds', h1, h2, h3, h4⟩ => by
  obtain ⟨ι, Q, rfl, h5⟩ := hk _ _ _ h4
  obtain ⟨x, hx⟩ := unpack h3
  exact ⟨s', Q x, Ds', h1, h2, by simpa using hx, h5 x⟩
theorem G_rangeX {α σ ι ρ : Type} {X : Cx} {K : K3} {s : Env} {g : Operand} {ps : List Nat} {assign body : Code} {gf : FuncId} {caps : Array Value} {en : α → List Value} (φ : α → σ → Option (Option Exit × σ)) (Q : σ → ι → List Chunk) (pre : List Chunk) (σ₀ : σ) (x₀ : ι) {je : Option Exit} {σr : σ} {L : List Chunk} {id : Nat} {vn vr : Option ρ} {vx : Nat → Option ρ} {v : ρ}
    (hr : X.r = none) (hg : evE s g = some (.func (.func gf) #[] caps)) (hf : Callable X.P gf) (hps : ps.all (fun p => Nat.ble (p + 1) X.n) = true) (hen : ∀ x, (en x).length = ps.length)
    (hit : ∀ l (G : (Option Exit × σ) → List Chunk), YieldOk X.P l G en (liftR φ) → Okc X.P gf (.func (.yield l) #[] #[] :: caps.toList) (pre ++ G (none, σ₀)) fun _ post => post = G (je, σr))
    (hL : Cv L (pre ++ Q σ₀ x₀)) (h : caseX je vn vr vx = some v)
    (hbody : ∀ l x σ₁ je' σ₂ z, φ x σ₁ = some (je', σ₂) → Wq ⟨X.P, X.n, some l⟩ assign (nx (fun s1 L1 => Wq ⟨X.P, X.n, some l⟩ body (RK je' [packC (Q σ₂)]) s1 L1) fun _ _ _ => False) (envR ps (en x) s) (Q σ₁ z))
    (hn : ∀ z, vn = some v → bk id K .normal s (Q σr z)) (hret : ∀ z, vr = some v → bk id K .ret s (Q σr z)) (hx : ∀ i z, vx i = some v → bk id K (.exit i) s (Q σr z)) :
    Wq X (.block id (.rangeFunc g ps.toArray assign body)) K s L := by
  refine G_block (G_pmono (K' := fun e s' L' => s' = s ∧ L' = [packC (Q σr)] ∧ ∀ z, bk id K e s (Q σr z)) ?_ ?_)
  · refine G_range φ (fun q => [packC (Q q)]) pre σ₀ hr hg hf hps hen hit ?_ ?_ ?_ ?_
    · exact hL.trans (cv_app pre (cv_pack1 x₀ rfl))
    · intro l x σ₁ je' σ₂ hφ
      exact G_unpack fun z => hbody l x σ₁ je' σ₂ z hφ
    · intro hj
      rw [hj] at h
      exact ⟨rfl, rfl, fun z => hn z h⟩
    · intro e he
      rw [he] at h
      cases e with
      | ret => exact ⟨rfl, rfl, rfl, fun z => hret z h⟩
      | exit i => exact ⟨rfl, rfl, rfl, fun z => hx i z h⟩
      | _ => cases h
  · rintro e s' L' ⟨rfl, rfl, h3⟩
    exact ⟨ι, Q σr, rfl, h3⟩
/-- the end of a round that leaves the loop -/
theorem RK_ret {L L' : List Chunk} {s : Env} (h : Cv L L') : RK (some .ret) L' .ret s L := ⟨.inr ⟨rfl, rfl⟩, h⟩
theorem RK_n {L L' : List Chunk} {s : Env} (h : Cv L L') : RK none L' .normal s L := ⟨.inl ⟨rfl, rfl⟩, h⟩

/-! results -/
def rvVal (P : Program) (L : List Chunk) (s : Env) (r : ResultVar) (v : Value) : Prop := match r with
  | .tmp t => look s t = some v
  | .cell t ty => ∃ b, look s t = some (.pointer (some ⟨b, 0, none⟩)) ∧ ∀ Z w, Sp Z L w → (loadVar ty ⟨b, 0, none⟩).run P w = .ok v w
def tup : List Value → Value
  | [v] => v
  | vs => .tuple vs.toArray
def resOf (tm : Array Value) (r : ResultVar) : Sem Value := match r with
  | .tmp t => pure (tm.getD t undef)
  | .cell a t => do loadVar t (← asAddr (tm.getD a undef))
theorem results_eq (fn : Func) (tm : Array Value) : results fn tm = (do let vs ← fn.results.mapM (resOf tm); pure (if h : vs.size = 1 then vs[0] else .tuple vs)) := rfl
theorem run_results {X : Cx} {s : Env} {a : Act} (ha : Fx X s a) {L Z : List Chunk} {w : World} (hw : Sp Z L w) : ∀ {rs : List ResultVar} {vs : List Value}, All2 (rvVal X.P L s) rs vs → (rs.mapM (resOf a.tmps)).run X.P w = .ok vs w
  | _, _, .nil => by simp
  | r :: rs, _, .cons (b := vr) h1 h2 => by
    have ih := run_results ha hw h2
    have h3 : (resOf a.tmps r).run X.P w = .ok vr w := by
      cases r with
      | tmp t =>
        have e := ha.at_ t _ h1
        unfold resOf
        simp only [Sem.run_pure, e]
      | cell t ty =>
        obtain ⟨b, e1, e2⟩ := h1
        have e := ha.at_ t _ e1
        unfold resOf
        simp only [e, asAddr, Sem.run_bind, Sem.run_pure, Result.andThen_ok, e2 _ _ hw]
    rw [List.mapM_cons, Sem.run_bind, h3, Result.andThen_ok, Sem.run_bind, ih, Result.andThen_ok, Sem.run_pure]
theorem endGl {X : Cx} {fn : Func} {R : Value → List Chunk → Prop} {s : Env} {L L2 : List Chunk} {rs : List ResultVar} {vs : List Value} {v : Value} (hr : fn.results = rs.toArray) (h : All2 (rvVal X.P L s) rs vs) (hv : tup vs = v) (hc : Cv L L2) (hR : R v L2) : EndG X fn R .ret s L := fun a ha => ⟨v, L2, fun Z w hw => by
  have h1 := run_results ha hw h
  rw [results_eq, hr, Sem.run_bind]
  simp only [List.mapM_toArray]
  have h2 : (List.toArray <$> rs.mapM (resOf a.tmps)).run X.P w = .ok vs.toArray w := by
    show ((rs.mapM (resOf a.tmps)) >>= fun l => pure l.toArray).run X.P w = _
    rw [Sem.run_bind, h1, Result.andThen_ok, Sem.run_pure]
  rw [h2, Result.andThen_ok, Sem.run_pure]
  subst hv
  match vs with
  | [] => rfl
  | [v] => rfl
  | _ :: _ :: _ => simp [tup], hc, hR⟩
theorem rv_boxS {P : Program} {L : List Chunk} {s : Env} {t ty bt b : Nat} {cs : List Value} (i : Nat) (hi : L[i]? = some (boxC b bt cs)) (hl : look s t = some (.pointer (some ⟨b, 0, none⟩))) (hu : aggB P ty cs.length = true) : rvVal P L s (.cell t ty) (.agg cs.toArray) := ⟨b, hl, fun Z w hw => by
  obtain ⟨T, S, -, h⟩ := hw.get (fr_get hi)
  exact run_loadS hu h.all⟩
theorem run_load1 {P : Program} {t : TypeId} {a : Addr} {v : Value} {w : World} (hu : oneB P t = true) (hc : w.cell? a = some v) : (loadVar t a).run P w = .ok v w := by
  have h1 : (isAgg t).run P w = .ok false w := by
    unfold oneB at hu
    unfold isAgg
    cases hq : P.underlying t with
    | none => rw [hq] at hu; cases hu
    | some u => rw [hq] at hu; rw [Sem.run_bind, run_underlying hq]; cases u <;> first | rfl | (cases hu)
  simp only [loadVar, Sem.run_bind, Sem.run_pure, Result.andThen_ok, h1, Bool.false_eq_true, if_false, run_load, hc]
theorem rv_box1 {P : Program} {L : List Chunk} {s : Env} {t ty bt b : Nat} {v : Value} (i : Nat) (hi : L[i]? = some (boxC b bt [v])) (hl : look s t = some (.pointer (some ⟨b, 0, none⟩))) (hu : oneB P ty = true) : rvVal P L s (.cell t ty) v := ⟨b, hl, fun Z w hw => by
  obtain ⟨T, S, -, h⟩ := hw.get (fr_get hi)
  exact run_load1 hu (h.at (by simp))⟩

section
variable {P : Program} {s : Env} {L : List Chunk} {d : Option Nat} {ty : TypeId} {pos : String} {af : Array Edge} {gd : Option (Nat × Bool)}
/-! stores into elements -/
theorem flatten_split {sz : Nat} : ∀ {vss : List (List Value)}, (∀ r ∈ vss, r.length = sz) → ∀ {k : Nat} {r : List Value}, vss[k]? = some r → ∀ r' : List Value, vss.flatten = vss.flatten.take (k * sz) ++ r ++ vss.flatten.drop (k * sz + sz) ∧ (vss.set k r').flatten = vss.flatten.take (k * sz) ++ r' ++ vss.flatten.drop (k * sz + sz)
  | [], _, k, r, h, _ => by simp at h
  | a :: l, hl, 0, r, h, r' => by
    simp only [List.getElem?_cons_zero, Option.some.injEq] at h
    subst h
    have e := hl a (by simp)
    simp [← e]
  | a :: l, hl, k + 1, r, h, r' => by
    simp only [List.getElem?_cons_succ] at h
    obtain ⟨h1, h2⟩ := flatten_split (fun x hx => hl x (by simp [hx])) h r'
    have e := hl a (by simp)
    have e1 : (k + 1) * sz = a.length + k * sz := by rw [e, Nat.add_mul]; omega
    have e2 : ∀ m : Nat, (a ++ l.flatten).take (a.length + m) = a ++ l.flatten.take m := fun m => by rw [List.take_append, List.take_of_length_le (by omega), Nat.add_sub_cancel_left]
    have e3 : ∀ m : Nat, (a ++ l.flatten).drop (a.length + m) = l.flatten.drop m := fun m => by rw [List.drop_append, List.drop_eq_nil_of_le (by omega), Nat.add_sub_cancel_left, List.nil_append]
    rw [List.set_cons_succ, List.flatten_cons, List.flatten_cons, e1, h2, Nat.add_assoc, e2, e3]
    refine ⟨?_, by simp only [List.append_assoc]⟩
    conv => lhs; rw [h1]
    simp only [List.append_assoc]
theorem rows_all {α : Type} {R : Rep α} {S : Nat → Prop} {w : World} {vss : List (List Value)} {xs : List α} (h : All2 (R.rel S w) vss xs) : ∀ r ∈ vss, r.length = R.sz := by
  induction h with
  | nil => intro r hr; cases hr
  | cons h1 _ ih =>
    intro r hr
    rcases List.mem_cons.1 hr with rfl | hr
    · exact R.len h1
    · exact ih r hr
theorem ow_app (cs us : List Value) (o : Nat) (h : o + us.length ≤ cs.length) : (ow cs.toArray o us).toList = cs.take o ++ us ++ cs.drop (o + us.length) := by
  rcases ow_list cs us o with h1 | h1
  · rw [h1]
  · omega
/-- a store into an element, or into a part of one -/
theorem op_storeE {α : Type} {R : Rep α} {e : TypeId} {t : TypeId} {x y : Operand} {v u : Value} {us : List Value} {xs : List α} {k off : Nat} {z : α} (i : Nat) (hi : L[i]? = some (ownC R e v xs)) (hx : evE s x = some (elemQ v k R.sz off)) (hy : evE s y = some u) (hv : u.cells.toList = us) (hs : sizeB P t us.length = true) (h1 : us.all (·.oneCell') = true) (hk : k < xs.length) (hle : Nat.ble (off + us.length) R.sz = true)
    (hrel : ∀ S w vs xk, xs[k]? = some xk → R.rel S w vs xk → Ro L S w → R.rel S w (vs.take off ++ us ++ vs.drop (off + us.length)) z) : OpX P s L ⟨d, .store t x y, ty, pos, af, gd⟩ fun _ L' => L' = L.set i (ownC R e v (xs.set k z)) := fun ρ hρ Z w hw => by
  obtain ⟨T, S, hT⟩ := hw
  obtain ⟨vss, g1, g2⟩ := hT.ok (fr_get hi)
  have hle := Nat.le_of_ble_eq_true hle
  rcases g2 with ⟨g2, g3⟩ | ⟨h0, -⟩
  rotate_left
  · omega
  rcases g2.2 with ⟨rfl, h0⟩ | ⟨g, cap, cur, rfl, q1, q2, q3, q4, q5, q6⟩
  · omega
  obtain ⟨xk, hxk⟩ : ∃ xk, xs[k]? = some xk := ⟨_, List.getElem?_eq_getElem hk⟩
  obtain ⟨vs, hvs, hr⟩ := g1.get hxk
  have hl := R.len hr
  have hlen : k * R.sz + R.sz ≤ xs.length * R.sz := by rw [← Nat.succ_mul]; exact Nat.mul_le_mul_right _ hk
  have hcap : xs.length * R.sz ≤ cap * R.sz := Nat.mul_le_mul_right _ q3
  have hx' : evE s x = some (.pointer (some ⟨g, k * R.sz + off, none⟩)) := by rw [hx]; simp [elemQ]
  obtain ⟨w', e1, e2, e3⟩ := run_storeCells_blk (P := P) (t := e) us w g (k * R.sz + off) 0 cur q2 (by omega) h1
  have hz := hrel S w vs xk hxk hr hT.ros.app
  have hfl := flatten_split (rows_all g1) hvs (vs.take off ++ us ++ vs.drop (off + us.length))
  refine .inr (.inl ⟨w', L.set i (ownC R e (.slice (some ⟨g, 0, none⟩) xs.length cap) (xs.set k z)), ?_, ?_, rfl⟩)
  · unfold execOp
    have hcs : u.cells = us.toArray := by rw [← hv]
    simp only [hρ x _ hx', hρ y _ hy, Instr.storeAt, Instr.sureAddr, storeVar, Sem.run_bind, Sem.run_pure, Result.andThen_ok, sizeB_run hs w, hcs, List.size_toArray, ne_eq, not_true, if_false, e1]
  · have hfin : SepL ((L ++ Z).set i (ownC R e (.slice (some ⟨g, 0, none⟩) xs.length cap) (xs.set k z))) w' := by
      refine hT.upd (fr_get hi) (T' := T i) (Agr.of_fr e2 fun q hq e => hq (e ▸ g3 g rfl)) (fun _ => .inl) (fun q hq => Nat.lt_of_lt_of_le (hT.lt hq) e2.size) ?_
      have hS : Agr S w w' := Agr.of_fr e2 fun q hq e => hT.ro (g3 g rfl) (e ▸ hq)
      refine ⟨vss.set k (vs.take off ++ us ++ vs.drop (off + us.length)), (g1.imp fun _ _ => R.loc hS).set (R.loc hS hz) k, .inl ⟨?_, g3⟩⟩
      rw [List.length_set]
      have hnew : ((vss.set k (vs.take off ++ us ++ vs.drop (off + us.length))).flatten).length = xs.length * R.sz := by
        have := rows_len (R := R) (S := S) (w := w) (g1.set hz k)
        rw [this, List.length_set]
      refine ⟨hnew, .inr ⟨g, cap, _, rfl, Nat.zero_le _, e3, q3, q4, by rw [ow_size]; exact q5, ?_⟩⟩
      have hcur : cur = cur.toList.toArray := by simp
      have hsz : k * R.sz + off + us.length ≤ cur.toList.length := by simp; omega
      rw [Nat.add_zero, hcur, ow_app _ _ _ hsz, hfl.2]
      have hF : vss.flatten = cur.toList.take (xs.length * R.sz) := q6.symm
      have hFl : vss.flatten.length = xs.length * R.sz := g2.1
      apply List.ext_getElem?
      intro j
      have hvl : vs.length = R.sz := hl
      have key : ∀ j', j' < R.sz → vs[j']? = vss.flatten[k * R.sz + j']? := fun j' hj' => by
        have h5 : vs[j']? = some (vs[j']'(by omega)) := List.getElem?_eq_getElem (by omega)
        rw [h5]
        exact (rows_get g1 hvs h5).symm
      by_cases hj : j < xs.length * R.sz
      · rw [List.getElem?_take, if_pos hj]
        by_cases c1 : j < k * R.sz
        · rw [List.append_assoc, List.getElem?_append_left (by rw [List.length_take]; simp; omega), List.getElem?_take, if_pos (by omega), List.append_assoc, List.getElem?_append_left (by rw [List.length_take]; omega), List.getElem?_take, if_pos c1, hF, List.getElem?_take, if_pos hj]
        · by_cases c2 : j < k * R.sz + off
          · rw [List.append_assoc, List.getElem?_append_left (by rw [List.length_take]; simp; omega), List.getElem?_take, if_pos c2]
            rw [List.append_assoc, List.getElem?_append_right (by rw [List.length_take]; omega), List.length_take, show min (k * R.sz) vss.flatten.length = k * R.sz by omega]
            rw [List.append_assoc, List.append_assoc, List.getElem?_append_left (by rw [List.length_take]; omega), List.getElem?_take, if_pos (by omega), key _ (by omega), show k * R.sz + (j - k * R.sz) = j by omega, hF, List.getElem?_take, if_pos hj]
          · by_cases c3 : j < k * R.sz + off + us.length
            · rw [List.append_assoc, List.getElem?_append_right (by rw [List.length_take]; simp; omega), List.length_take, show min (k * R.sz + off) cur.toList.length = k * R.sz + off by omega, List.getElem?_append_left (by omega)]
              rw [List.append_assoc, List.getElem?_append_right (by rw [List.length_take]; omega), List.length_take, show min (k * R.sz) vss.flatten.length = k * R.sz by omega]
              rw [List.append_assoc, List.append_assoc, List.getElem?_append_right (by rw [List.length_take]; omega), List.length_take, show min off vs.length = off by omega, List.getElem?_append_left (by omega)]
              congr 1; omega
            · rw [List.append_assoc, List.getElem?_append_right (by rw [List.length_take]; simp; omega), List.length_take, show min (k * R.sz + off) cur.toList.length = k * R.sz + off by omega, List.getElem?_append_right (by omega), List.getElem?_drop]
              rw [List.append_assoc, List.getElem?_append_right (by rw [List.length_take]; omega), List.length_take, show min (k * R.sz) vss.flatten.length = k * R.sz by omega]
              rw [List.append_assoc, List.append_assoc, List.getElem?_append_right (by rw [List.length_take]; omega), List.length_take, show min off vs.length = off by omega, List.getElem?_append_right (by omega)]
              by_cases c4 : j < k * R.sz + R.sz
              · rw [List.getElem?_append_left (by rw [List.length_drop]; omega), List.getElem?_drop, key _ (by omega), hF, List.getElem?_take, if_pos (by omega)]
                congr 1; omega
              · rw [List.getElem?_append_right (by rw [List.length_drop]; omega), List.length_drop, List.getElem?_drop, hF, List.getElem?_take, if_pos (by omega)]
                congr 1; omega
      · rw [List.getElem?_take, if_neg hj]
        refine (List.getElem?_eq_none ?_).symm
        rw [← hfl.2, hnew]; omega
    rw [fr_set Z hi] at hfin
    exact hfin
/-! more maps -/
/-! slices with a bound on what may grow -/
theorem run_bound {P : Program} {w : World} {m c : Nat} {code : BoundsCode} (h : m ≤ c) : (Instr.sliceBound (.int .i64 (m : Int)) c code).run P w = .ok m w := by
  unfold Instr.sliceBound
  simp only [asIntOf, Sem.run_bind, Sem.run_pure, Result.andThen_ok]
  rw [if_pos ⟨by omega, by omega⟩]
  simp
theorem ev_slice3 {C : World → Prop} {t e sz : Nat} {x y z : Operand} {A : Option Addr} {n c : Nat} {h m : Nat} (hx : evE s x = some (.slice A n c)) (hu : P.underlying t = some (.slice e)) (hs : sizeB P e sz = true) (hh : evE s y = some (.int .i64 (h : Int))) (hm : evE s z = some (.int .i64 (m : Int))) (h1 : h ≤ m) (h2 : m ≤ c) : Ev P s C ⟨d, .slice t x none (some y) (some z), ty, pos, af, gd⟩ (.slice (if m = 0 then A else A.map (·.add 0)) h m) := fun ρ hρ w _ => by
  unfold execOp
  simp only [Option.map_some, Option.map_none, hρ x _ hx, hρ y _ hh, hρ z _ hm, Instr.sliceAt, Instr.slice, Instr.sliceBounds, Sem.run_bind, run_underlying hu, Result.andThen_ok, run_bound h2, run_bound h1, sizeB_run hs w, Sem.run_pure, Nat.zero_mul]
  rfl
/-! a growing slice with a view -/
end
/-- a growing slice, and a view of its first k elements -/
def growC {α : Type} (R : Rep α) (e : TypeId) (v : Value) (xs : List α) (vw : Value) (k : Nat) : Chunk where
  ok T S w := ∃ vss, All2 (R.rel S w) vss xs ∧ ((w.ownsRow 0 e R.sz v xs.length vss.flatten ∧ ∀ q, v.ownBlock = some q → T q) ∨ (xs.length = 0 ∧ ∃ A, v = .slice A 0 0)) ∧ k ≤ xs.length ∧ ∃ A, vw = .slice A k k ∧ k ≤ 9223372036854775807 ∧ (0 < k → ∃ b, A = some ⟨b, 0, none⟩ ∧ T b ∧ b < w.heap.size ∧ CellsAt w b 0 (vss.take k).flatten)
  loc := fun h ⟨vss, h1, h2, h3, A, h4, h5, h6⟩ => ⟨vss, h1.imp fun _ _ => R.loc (h.mono fun _ => .inr), h2.imp (fun ⟨h2, h3⟩ => ⟨ownsRow_agr h2 h fun q hq => .inl (h3 q hq), h3⟩) id, h3, A, h4, h5, fun h0 => by
    obtain ⟨b, g1, g2, g3, g4⟩ := h6 h0
    exact ⟨b, g1, g2, Nat.lt_of_lt_of_le g3 h.size, g4.agr h (.inl g2) g3⟩⟩
  mono := fun h ⟨vss, h1, h2, h3⟩ => ⟨vss, h1.imp fun _ _ => R.mono h, h2, h3⟩
  ro := false
  dup := fun h => Bool.noConfusion h
theorem grow_own {α : Type} {R : Rep α} {e : TypeId} {v : Value} {xs : List α} {vw : Value} {k : Nat} {T S : Nat → Prop} {w : World} (h : (growC R e v xs vw k).ok T S w) : (ownC R e v xs).ok T S w := by
  obtain ⟨vss, h1, h2, -⟩ := h
  exact ⟨vss, h1, h2⟩
theorem els_grow {α : Type} {R : Rep α} {e : TypeId} {v : Value} {xs : List α} {vw : Value} {k : Nat} : Els R v xs (growC R e v xs vw k) := fun T S w h => els_own T S w (grow_own h)
theorem els_view {α : Type} {R : Rep α} {e : TypeId} {v : Value} {xs : List α} {vw : Value} {k : Nat} : Els R vw (xs.take k) (growC R e v xs vw k) := fun T S w ⟨vss, h1, _, h3, A, h4, h5, h6⟩ => by
  have hl : (xs.take k).length = k := by rw [List.length_take]; omega
  refine ⟨A, k, by rw [hl]; exact h4, by omega, h5, fun h0 => ?_⟩
  rw [hl] at h0
  obtain ⟨b, g1, g2, g3, g4⟩ := h6 h0
  exact ⟨b, 0, vss.take k, g1, h1.take k, g4⟩
theorem cv_grow0 {α : Type} {R : Rep α} {e : TypeId} {v : Value} {xs : List α} {L : List Chunk} (i : Nat) (hi : L[i]? = some (ownC R e v xs)) : Cv L (L.set i (growC R e v xs (.slice none 0 0) 0)) := fun Z w h => by
  have h1 := h.weak (fr_get hi) (d := growC R e v xs (.slice none 0 0) 0) fun T S ⟨vss, h1, h2⟩ => ⟨vss, h1, h2, Nat.zero_le _, none, rfl, by omega, fun h => absurd h (by omega)⟩
  rw [fr_set Z hi] at h1
  exact h1
theorem cv_ungrow {α : Type} {R : Rep α} {e : TypeId} {v : Value} {xs : List α} {vw : Value} {k : Nat} {L : List Chunk} (i : Nat) (hi : L[i]? = some (growC R e v xs vw k)) : Cv L (L.set i (ownC R e v xs)) := fun Z w h => by
  have h1 := h.weak (fr_get hi) (d := ownC R e v xs) fun T S h => grow_own h
  rw [fr_set Z hi] at h1
  exact h1
section
variable {P : Program} {s : Env} {L : List Chunk} {d : Option Nat} {ty : TypeId} {pos : String} {af : Array Edge} {gd : Option (Nat × Bool)}
theorem op_view {α : Type} {R : Rep α} {t e sz : Nat} {x y z : Operand} {v vw : Value} {xs : List α} {k n : Nat} (i : Nat) (hi : L[i]? = some (growC R e v xs vw k)) (hx : evE s x = some v) (hu : P.underlying t = some (.slice e)) (hs : sizeB P e sz = true) (hsz : R.sz = sz) (hh : evE s y = some (.int .i64 (n : Int))) (hm : evE s z = some (.int .i64 (n : Int))) (h1 : n ≤ xs.length) : OpX P s L ⟨d, .slice t x none (some y) (some z), ty, pos, af, gd⟩ fun u L' => ∃ A, u = .slice A n n ∧ L' = L.set i (growC R e v xs (.slice A n n) n) := fun ρ hρ Z w hw => by
  have hw0 := hw
  obtain ⟨T, S, hT⟩ := hw
  obtain ⟨vss, g1, g2, g3⟩ := hT.ok (fr_get hi)
  obtain ⟨A, c, rfl, q1, q2, -⟩ := els_grow _ _ _ (hT.ok (fr_get hi))
  have hrun := ev_slice3 (C := fun _ => True) (d := d) (ty := ty) (pos := pos) (af := af) (gd := gd) hx hu hs hh hm (Nat.le_refl _) (by omega) ρ hρ w trivial
  refine .inl ⟨_, w, L.set i (growC R e (.slice A xs.length c) xs (.slice (if n = 0 then A else A.map (·.add 0)) n n) n), hrun, ?_, _, rfl, rfl⟩
  have hfin : SepL ((L ++ Z).set i (growC R e (.slice A xs.length c) xs (.slice (if n = 0 then A else A.map (·.add 0)) n n) n)) w := by
    refine hw0.weak (fr_get hi) fun T S ⟨vss, g1, g2, g3⟩ => ⟨vss, g1, g2, h1, _, rfl, by omega, fun h0 => ?_⟩
    rw [if_neg (by omega)]
    rcases g2 with ⟨g2, g4⟩ | ⟨h9, -⟩
    · rcases g2.2 with ⟨e1, h9⟩ | ⟨g, cap, cur, e1, p1, p2, p3, p4, p5, p6⟩
      · omega
      · injection e1 with e1 e2 e3
        subst e1
        refine ⟨g, by simp [at_add'], g4 g rfl, Blk.lt (t := e) (cs := cur) p2, ?_⟩
        have h5 := own_cells (cap := cap) p2 p6
        rw [← List.take_append_drop n vss, List.flatten_append] at h5
        exact h5.left
    · omega
  rw [fr_set Z hi] at hfin
  exact hfin
/-- append to a growing slice with a view -/
theorem op_appendV {α : Type} {R : Rep α} {x y : Operand} {t e : TypeId} {v v2 vw : Value} {k : Nat} {xs ys : List α} {c2 : Chunk} {sz by_ : Nat} (i j : Nat) (hi : L[i]? = some (growC R e v xs vw k)) (hj : L[j]? = some c2) (he : Els R v2 ys c2) (hx : evE s x = some v) (hy : evE s y = some v2) (ht : P.underlying t = some (.slice e)) (hz : zeroB P e sz by_ = true) (hsz : R.sz = sz) (hby : Nat.ble by_ 127 = true) (hb : xs.length + ys.length ≤ 1099511627776) : OpX P s L ⟨d, .call ⟨.builtin .append, #[x, y], #[t, t]⟩, ty, pos, af, gd⟩ fun u L' => ∃ A n c, u = .slice A n c ∧ L' = L.set i (growC R e (.slice A n c) (xs ++ ys) vw k) := fun ρ hρ Z w hw => by
  have hbuilt := run_builtin (P := P) (ρ := ρ) (d := d) (ty := ty) (pos := pos) (af := af) (gd := gd) (b := .append) (xs := [x, y]) (ats := #[t, t]) (vs := [v, v2]) (by simp [hρ x _ hx, hρ y _ hy]) w
  have hby' := Nat.le_of_ble_eq_true hby
  unfold zeroB at hz
  cases hinfo : P.info? e with
  | none => rw [hinfo] at hz; cases hz
  | some inf =>
    rw [hinfo] at hz
    simp only [Bool.and_eq_true] at hz
    obtain ⟨⟨⟨q2, q3⟩, q4⟩, q5⟩ := hz
    cases hzz : inf.zero with
    | none => rw [hzz] at q4; cases q4
    | some z =>
      rw [hzz] at q4
      have e2 := Nat.eq_of_beq_eq_true q2
      have e3 := Nat.eq_of_beq_eq_true q3
      have e4 := Nat.eq_of_beq_eq_true q4
      have e5 : 0 < sz := by have h6 : 1 ≤ sz := (by simpa [Nat.blt] using q5); omega
      have hsB : sizeB P e sz = true := by unfold sizeB; rw [hinfo]; exact q2
      subst hsz
      have hw0 := hw
      obtain ⟨T, S, hT⟩ := hw
      have hc2 := hT.ok (fr_get hj)
      obtain ⟨vss1, g1, g2, g3, Aw, rfl, g5, g6⟩ := hT.ok (fr_get hi)
      obtain ⟨A1, cap1, rfl, p1, p2, p3⟩ := els_grow _ _ _ (hT.ok (fr_get hi))
      obtain ⟨A2, cap2, rfl, k2, k3, k4⟩ := he _ _ _ hc2
      have hown0 : xs.length = 0 ∨ ∃ g cur, A1 = some ⟨g, 0, none⟩ ∧ w.heap[g]? = some (.cells cur e (0, 0)) ∧ cur.size = cap1 * R.sz ∧ cur.toList.take (xs.length * R.sz) = vss1.flatten ∧ T i g ∧ cap1 ≤ maxLen := by
        rcases g2 with ⟨g2, g4⟩ | ⟨h9, -⟩
        · rcases g2.2 with ⟨-, h9⟩ | ⟨g, cap, cur, e1, r1, r2, r3, r4, r5, r6⟩
          · exact .inl h9
          · injection e1 with e1 e2 e3
            subst e1 e3
            exact .inr ⟨g, cur, rfl, r2, r5, r6, g4 g rfl, r4⟩
        · exact .inl h9
      have hlen1 := rows_len g1
      rcases Nat.eq_zero_or_pos ys.length with h0 | h0
      · -- nothing is appended
        have hys : ys = [] := List.eq_nil_of_length_eq_zero h0
        subst hys
        refine .inl ⟨.slice A1 xs.length cap1, w, L, ?_, hw0, A1, _, cap1, rfl, ?_⟩
        · rw [hbuilt]
          simp only [builtin, Sem.run_bind]
          have r1' : (Builtin.append_ #[t, t] ty [Value.slice A1 xs.length cap1, .slice A2 ([] : List α).length cap2].toArray).run P w = .ok (.slice A1 xs.length cap1) w := by
            unfold Builtin.append_
            simp only [List.getElem?_toArray, List.getElem?_cons_zero, List.getElem?_cons_succ]
            rw [Sem.run_bind, run_underlying ht, Result.andThen_ok]
            dsimp only
            rw [Sem.run_bind, sizeB_run hsB, Result.andThen_ok]
            rw [Sem.run_bind, run_underlying ht, Result.andThen_ok]
            dsimp only
            rw [Sem.run_bind, Sem.run_pure, Result.andThen_ok]
            simp only [Bool.false_eq_true, if_false, Bool.not_false, if_true]
            have h1 : (Builtin.lenOf (.slice A2 ([] : List α).length cap2)).run P w = .ok 0 w := rfl
            rw [Sem.run_bind, h1, Result.andThen_ok]
            rw [if_pos (by omega)]
            rw [Sem.run_bind, List.length_nil, firstCells_nil _ w A2 cap2, Result.andThen_ok]
            cases A1 with
            | none => rfl
            | some a => simp [storeCells]
          rw [r1']
          rfl
        · apply List.ext_getElem?
          intro q
          by_cases e : i = q
          · subst e; rw [List.getElem?_set_self (List.getElem?_eq_some_iff.1 hi).1, hi, List.append_nil]
          · rw [List.getElem?_set_ne e]
      · obtain ⟨b, o, vss2, rfl, k5, k6⟩ := k4 h0
        have hm : (xs.length + ys.length) * by_ ≤ 140737488355328 := Nat.le_trans (Nat.mul_le_mul hb hby') (by decide)
        have hl2 := rows_len k5
        have hn2 : ∀ j u, vss2.flatten[j]? = some u → w.cell? ((⟨b, o, none⟩ : Addr).add j) = some u := fun j u hj => by rw [at_add']; exact k6 j u hj
        have hlen : (vss1.flatten ++ vss2.flatten).length = (xs.length + ys.length) * R.sz := by rw [List.length_append, hlen1, hl2, Nat.add_mul]
        have hfl : vss1.flatten ++ vss2.flatten = (vss1 ++ vss2).flatten := by rw [List.flatten_append]
        -- the new row in new memory
        have fin : ∀ (v' : Value) (w' : World), (Builtin.append_ #[t, t] ty #[.slice A1 xs.length cap1, .slice (some ⟨b, o, none⟩) ys.length cap2]).run P w = .ok v' w' → (∃ A c, v' = .slice A (xs.length + ys.length) c) → w'.ownsRow 0 e R.sz v' (xs.length + ys.length) (vss1.flatten ++ vss2.flatten) → Agr (fun q => ¬ T i q) w w' → (∀ q, v'.ownBlock = some q → T i q ∨ w.heap.size ≤ q) → (0 < k → ∀ b', Aw = some ⟨b', 0, none⟩ → CellsAt w b' 0 (vss1.take k).flatten → CellsAt w' b' 0 (vss1.take k).flatten) →
            ∃ v w' L', (execOp ρ ⟨d, .call ⟨.builtin .append, #[x, y], #[t, t]⟩, ty, pos, af, gd⟩).run P w = .ok (.value v) w' ∧ Sp Z L' w' ∧ ∃ A n c, v = .slice A n c ∧ L' = L.set i (growC R e (.slice A n c) (xs ++ ys) (.slice Aw k k) k) := by
          rintro v' w' r1 ⟨A', c', rfl⟩ r2 r3 hnew hvw
          refine ⟨_, w', L.set i (growC R e (.slice A' (xs.length + ys.length) c') (xs ++ ys) (.slice Aw k k) k), ?_, ?_, A', _, c', rfl, rfl⟩
          · rw [hbuilt]
            simp only [builtin, Sem.run_bind]
            have r1' : (Builtin.append_ #[t, t] ty [Value.slice A1 xs.length cap1, .slice (some ⟨b, o, none⟩) ys.length cap2].toArray).run P w = .ok (.slice A' (xs.length + ys.length) c') w' := r1
            rw [r1']
            rfl
          · have hfin : SepL ((L ++ Z).set i (growC R e (.slice A' (xs.length + ys.length) c') (xs ++ ys) (.slice Aw k k) k)) w' := by
              refine hT.upd (fr_get hi) (T' := fun q => T i q ∨ (Value.slice A' (xs.length + ys.length) c').ownBlock = some q) r3 (fun q hq => hq.elim .inl (hnew q)) (fun q hq => hq.elim (fun hq => Nat.lt_of_lt_of_le (hT.lt hq) r3.size) fun hq => (World.ownsRow.lt r2 q hq).2) ?_
              have hS : Agr S w w' := r3.mono fun q hq hn => hT.ro hn hq
              refine ⟨vss1 ++ vss2, (g1.imp fun _ _ => R.loc hS).append (k5.imp fun _ _ => R.loc hS), .inl ⟨by rw [List.flatten_append, List.length_append]; exact r2, fun _ h => .inr h⟩, by rw [List.length_append]; omega, Aw, rfl, g5, fun hk0 => ?_⟩
              obtain ⟨b', t1, t2, t3, t4⟩ := g6 hk0
              refine ⟨b', t1, .inl t2, Nat.lt_of_lt_of_le t3 r3.size, ?_⟩
              rw [List.take_append_of_le_length (by rw [g1.length]; exact g3)]
              exact hvw hk0 b' t1 t4
            rw [fr_set Z hi] at hfin
            exact hfin
        have grown : ∀ (old : Nat), let w' := w.drew.alloc (.cells (vss1.flatten.toArray ++ vss2.flatten.toArray ++ Builtin.zeroCells z.cells (grownCap w (xs.length + ys.length) old e - (xs.length + ys.length))) e)
            w'.ownsRow 0 e R.sz (.slice (some ⟨w.heap.size, 0, none⟩) (xs.length + ys.length) (grownCap w (xs.length + ys.length) old e)) (xs.length + ys.length) (vss1.flatten ++ vss2.flatten) ∧ Agr (fun _ => True) w w' := by
          intro old
          have hge := grownCap_ge w (xs.length + ys.length) old e
          have hcm : grownCap w (xs.length + ys.length) old e ≤ maxLen := grownCap_le_maxLen w _ old e (by unfold maxLen; omega)
          refine ⟨⟨hlen, .inr ⟨w.heap.size, _, _, rfl, Nat.zero_le _, heap_alloc_new w.drew _, hge, hcm, ?_, ?_⟩⟩, ⟨rfl, rfl, rfl, by simp, fun q hq _ => heap_alloc_old w.drew _ hq⟩⟩
          · simp only [Array.size_append, List.size_toArray, size_zeroCells, e4, hlen1, hl2, ← Nat.add_mul]
            congr 1
            omega
          · simp only [Array.toList_append, List.append_assoc]
            rw [← List.append_assoc, ← hlen]
            exact List.take_left
        by_cases hx0 : xs.length = 0
        · -- the old slice has no elements
          have hv0 : vss1.flatten = [] := List.eq_nil_of_length_eq_zero (by rw [hlen1, hx0]; simp)
          have hk0 : k = 0 := by omega
          by_cases hroom : xs.length + ys.length ≤ cap1
          · rcases g2 with ⟨g2, g4⟩ | ⟨-, A9, h9⟩
            · rcases g2.2 with ⟨e1, -⟩ | ⟨g, cap, cur, e1, r1, r2, r3, r4, r5, r6⟩
              · injection e1 with _ _ e1; omega
              · injection e1 with e1 _ e3'
                subst e1 e3'
                obtain ⟨v', w', r1, r2, r3, -⟩ := run_append_own w 0 t ty e inf z R.sz by_ ht hinfo hzz e2 e3 e4 e5 _ xs.length vss1.flatten g2 ⟨b, o, none⟩ ys.length cap2 vss2.flatten hl2 hn2 (List.all_eq_true.1 (rows_one k5)) (by unfold maxLen; omega) hm (Nat.zero_le _)
                have hsh : ∃ A c, v' = .slice A (xs.length + ys.length) c := by
                  rcases r2.2 with ⟨rfl, h9⟩ | ⟨g, cap, cur, rfl, -⟩
                  · omega
                  · exact ⟨_, _, rfl⟩
                exact .inl (fin v' w' r1 hsh r2 ⟨r3.os, r3.tape, r3.output, r3.size, fun q hq hn => r3.block q hq fun e => hn (g4 q e.symm)⟩ (fun q hq => by
                  rcases app_block ht r1 with h | ⟨q', h, h'⟩
                  · rw [h] at hq; cases hq; exact .inl (g4 _ rfl)
                  · rw [h] at hq; cases hq; exact .inr h') fun h => absurd h (by omega))
            · injection h9 with _ _ h9; omega
          · -- new memory
            cases A1 with
            | none =>
              have hr := run_append_nil (P := P) w t ty e inf z ht hinfo hzz ⟨b, o, none⟩ ys.length cap2 vss2.flatten (by rw [e2]; exact hl2) hn2 h0 (by omega) (by rw [e3]; have hm' : ys.length * by_ ≤ 140737488355328 := Nat.le_trans (Nat.mul_le_mul_right _ (by omega)) hm; omega)
              have hgr := grown 0
              have hcap0 : cap1 = 0 := by
                rcases g2 with ⟨g2, -⟩ | ⟨-, A9, h9⟩
                · rcases g2.2 with ⟨e1, -⟩ | ⟨g, cap, cur, e1, -⟩
                  · injection e1
                  · injection e1 with e1; cases e1
                · injection h9
              simp only [hx0, hcap0, hv0, Nat.zero_add, List.nil_append, Array.empty_append] at hgr fin ⊢
              exact .inl (fin _ _ hr ⟨_, _, rfl⟩ hgr.1 (hgr.2.mono fun _ _ => trivial) (fun q hq => by cases hq; exact .inr (Nat.le_refl _)) fun h => absurd h (by omega))
            | some a1 =>
              have hr := run_append_grow (P := P) w t ty e inf z ht hinfo hzz a1 xs.length cap1 [] (by rw [hx0]; simp) (fun j u hj => by simp at hj) ⟨b, o, none⟩ ys.length cap2 vss2.flatten (by rw [e2]; exact hl2) hn2 (by omega) (by omega) (by rw [e3]; exact growslice_fits (by omega) hm)
              have hgr := grown cap1
              rw [hv0] at hgr fin
              exact .inl (fin _ _ hr ⟨_, _, rfl⟩ hgr.1 (hgr.2.mono fun _ _ => trivial) (fun q hq => by cases hq; exact .inr (Nat.le_refl _)) fun h => absurd h (by omega))
        · obtain ⟨g, cur, rfl, c1, c3, c4, c5, c6⟩ := hown0.resolve_left hx0
          have holds : CellsAt w g 0 vss1.flatten := own_cells (cap := cap1) c1 c4
          by_cases hroom : xs.length + ys.length ≤ cap1
          · have hg2 : w.ownsRow 0 e R.sz (.slice (some ⟨g, 0, none⟩) xs.length cap1) xs.length vss1.flatten := ⟨hlen1, .inr ⟨g, cap1, cur, rfl, Nat.zero_le _, c1, p1, c6, c3, c4⟩⟩
            have hfit : xs.length * inf.size + vss2.flatten.length ≤ cur.size := by rw [hl2, e2, c3, ← Nat.add_mul]; exact Nat.mul_le_mul_right _ hroom
            have hr := run_append_room (P := P) w t ty e inf ht hinfo g xs.length cap1 cur c1 ⟨b, o, none⟩ ys.length cap2 vss2.flatten (by rw [e2]; exact hl2) hn2 (List.all_eq_true.1 (rows_one k5)) hroom hfit
            obtain ⟨v', w', r1, r2, r3, -⟩ := run_append_own w 0 t ty e inf z R.sz by_ ht hinfo hzz e2 e3 e4 e5 _ xs.length vss1.flatten hg2 ⟨b, o, none⟩ ys.length cap2 vss2.flatten hl2 hn2 (List.all_eq_true.1 (rows_one k5)) (by unfold maxLen; omega) hm (Nat.zero_le _)
            have heq := r1.symm.trans hr
            simp only [Result.ok.injEq] at heq
            obtain ⟨hv', -⟩ := heq
            subst hv'
            refine .inl (fin _ w' r1 ⟨_, _, rfl⟩ r2 ⟨r3.os, r3.tape, r3.output, r3.size, fun q hq hn => r3.block q hq fun e => hn (by cases e; exact c5)⟩ (fun q hq => by cases hq; exact .inl c5) fun hk0 b' hb' hc => ?_)
            by_cases hbg : b' = g
            · subst hbg
              rcases r2.2 with ⟨e9, -⟩ | ⟨g', cap', cur', e9, -, d2, -, -, -, d6⟩
              · cases e9
              · injection e9 with e9
                injection e9 with e9
                injection e9 with e9
                subst e9
                have h5 : CellsAt w' b' 0 (vss1.flatten ++ vss2.flatten) := own_cells (cap := cap') d2 d6
                have h6 := h5.left
                rw [← List.take_append_drop k vss1, List.flatten_append] at h6
                exact h6.left
            · intro j u hj
              have := hc j u hj
              have hlt : b' < w.heap.size := by
                rcases Nat.lt_or_ge b' w.heap.size with h | h
                · exact h
                · exfalso
                  rw [World.cell?, Array.getElem?_eq_none (by exact h)] at this
                  cases this
              rw [← this]
              exact World.cell?_of_block (r3.block b' hlt fun e => hbg (by cases e; rfl))
          · have hr := run_append_grow (P := P) w t ty e inf z ht hinfo hzz ⟨g, 0, none⟩ xs.length cap1 vss1.flatten (by rw [e2]; exact hlen1) (fun j u hj => by rw [at_add']; exact holds j u hj) ⟨b, o, none⟩ ys.length cap2 vss2.flatten (by rw [e2]; exact hl2) hn2 (by omega) (by omega) (by rw [e3]; exact growslice_fits (by omega) hm)
            have hgr := grown cap1
            refine .inl (fin _ _ hr ⟨_, _, rfl⟩ hgr.1 (hgr.2.mono fun _ _ => trivial) (fun q hq => by cases hq; exact .inr (Nat.le_refl _)) fun hk0 b' hb' hc => ?_)
            obtain ⟨b'', t1, t2, t3, t4⟩ := g6 hk0
            have hbb : b'' = b' := by rw [t1] at hb'; injection hb' with hb'; injection hb'
            subst hbb
            exact hc.agr hgr.2 trivial t3
end
end Go.Proofs.Ytmbaennilhdieaa
