/- The walk over chunks: growing slices, parts of slices, calls, ends. Over any program. -/
import Derived.Test.YtmbaennilhdieaaA3
namespace Go.Proofs.Ytmbaennilhdieaa
open Go.RowKit

/-- what nobody writes, by its place in L -/
def Ro (L : List Chunk) (S : Nat → Prop) (w : World) : Prop := ∀ (i : Nat) (c : Chunk), L[i]? = some c → c.ro = true → c.ok (fun _ => False) S w
theorem SepT.ros {L : List Chunk} {T : Nat → Nat → Prop} {S : Nat → Prop} {w : World} (h : SepT L T S w) : Ro L S w := fun _ c hi hc => c.dup hc (h.ok hi)
theorem Ro.app {L Z : List Chunk} {S : Nat → Prop} {w : World} (h : Ro (L ++ Z) S w) : Ro L S w := fun i c hi hc => h i c (fr_get hi) hc
theorem Ro.loc {L : List Chunk} {S : Nat → Prop} {w w' : World} (h : Ro L S w) (hx : Agr S w w') : Ro L S w' := fun i c hi hc => c.loc (hx.mono fun _ h => h.elim False.elim id) (h i c hi hc)
section
variable {P : Program} {s : Env} {L : List Chunk} {d : Option Nat} {ty : TypeId} {pos : String} {af : Array Edge} {gd : Option (Nat × Bool)}
/-- a new slice of given elements -/
theorem op_bslice {α : Type} {R : Rep α} {t e : TypeId} {m : Nat} {ps : List (Nat × Operand)} {vs : List (Nat × Value)} {vss : List (List Value)} {xs : List α} (hp : evp s ps = some vs) (hr : ∀ w, (Instr.buildSlice t m vs.toArray).run P w = .ok (.slice (some ⟨w.heap.size, 0, none⟩) m m) (w.alloc (.cells vss.flatten.toArray e))) (hm : xs.length = m) (hmm : Nat.ble m maxLen = true) (hrel : ∀ S w, Ro L S w → All2 (R.rel S w) vss xs) : OpX P s L ⟨d, .buildSlice t m ps.toArray, ty, pos, af, gd⟩ fun u L' => ∃ A n c, u = .slice A n c ∧ L' = ownC R e (.slice A n c) xs :: L := fun ρ hρ Z w hw => by
  have hx : Ext w (w.alloc (.cells vss.flatten.toArray e)) := (Ext.refl w).alloc _
  refine .inl ⟨_, w.alloc (.cells vss.flatten.toArray e), ownC R e (.slice (some ⟨w.heap.size, 0, none⟩) m m) xs :: L, ?_, ?_, _, _, _, rfl, rfl⟩
  · unfold execOp; simp only [List.map_toArray, evp_map hρ hp, Sem.run_bind, hr, Result.andThen_ok]; rfl
  · refine SepL.new hw (Agr.of_ext hx) fun T S h => ⟨(· = w.heap.size), fun q hq => by subst hq; simp, vss, hrel S _ (h.ros.app.loc (Agr.of_ext hx)), .inl ⟨?_, fun q hq => by cases hq; rfl⟩⟩
    subst hm
    have hl := rows_len (hrel S w h.ros.app)
    exact ⟨hl, .inr ⟨w.heap.size, xs.length, vss.flatten.toArray, rfl, Nat.zero_le _, Blk.new w e _, Nat.le_refl _, Nat.le_of_ble_eq_true hmm, by simpa using hl, by rw [← hl]; exact List.take_length⟩⟩
theorem firstCells_nil (sz : Nat) (w : World) (A : Option Addr) (c : Nat) : (Builtin.firstCells sz 0 (.slice A 0 c)).run P w = .ok #[] w := by
  unfold Builtin.firstCells
  cases A
  · simp
  · simp [loadCells, loadCellsFrom]
theorem run_append_none {t ty e sz : TypeId} {v : Value} {n : Nat} {cs : List Value} {A2 : Option Addr} {c : Nat} (ht : P.underlying t = some (.slice e)) (hs : sizeB P e sz = true) (w : World) (hown : w.ownsRow 0 e sz v n cs) : (Builtin.append_ #[t, t] ty #[v, .slice A2 0 c]).run P w = .ok v w := by
  have key : ∀ (A : Option Addr) (cap : Nat), n ≤ cap → v = .slice A n cap → (Builtin.append_ #[t, t] ty #[v, .slice A2 0 c]).run P w = .ok v w := by
    rintro A cap hle rfl
    unfold Builtin.append_
    simp only [List.getElem?_toArray, List.getElem?_cons_zero, List.getElem?_cons_succ]
    rw [Sem.run_bind, run_underlying ht, Result.andThen_ok]
    dsimp only
    rw [Sem.run_bind, sizeB_run hs, Result.andThen_ok]
    rw [Sem.run_bind, run_underlying ht, Result.andThen_ok]
    dsimp only
    rw [Sem.run_bind, Sem.run_pure, Result.andThen_ok]
    simp only [Bool.false_eq_true, if_false, Bool.not_false, if_true]
    have h1 : (Builtin.lenOf (.slice A2 0 c)).run P w = .ok 0 w := rfl
    rw [Sem.run_bind, h1, Result.andThen_ok]
    rw [if_pos (by omega)]
    rw [Sem.run_bind, firstCells_nil sz w A2 c, Result.andThen_ok]
    cases A with
    | none => rfl
    | some a => simp [storeCells]
  rcases hown.2 with ⟨rfl, h0⟩ | ⟨g, cap, cur, rfl, -, -, h3, -⟩
  · subst h0; exact key none 0 (Nat.le_refl _) rfl
  · exact key _ cap h3 rfl
/-- append to a slice without cells -/
theorem run_append_zero {t ty e : TypeId} {A : Option Addr} (w : World) (inf : TypeInfo) (z : Value) (sz by_ : Nat) (ht : P.underlying t = some (.slice e)) (hi : P.info? e = some inf) (hz : inf.zero = some z) (e2 : inf.size = sz) (e3 : inf.bytes = by_) (e4 : z.cells.size = sz) (e5 : 0 < sz) (a : Addr) (m c : Nat) (news : List Value) (hl : news.length = m * sz) (hnews : ∀ j u, news[j]? = some u → w.cell? (a.add j) = some u) (h1 : ∀ u ∈ news, u.oneCell' = true) (hm : 0 < m) (h63 : m ≤ maxLen) (hb : m * by_ ≤ 140737488355328) :
    ∃ v' w', (Builtin.append_ #[t, t] ty #[.slice A 0 0, .slice (some a) m c]).run P w = .ok v' w' ∧ w'.ownsRow w.heap.size e sz v' m news ∧ w.grownBy w' none := by
  cases A with
  | none =>
    obtain ⟨v', w', r1, r2, r3, -⟩ := run_append_own w w.heap.size t ty e inf z sz by_ ht hi hz e2 e3 e4 e5 (.slice none 0 0) 0 [] (World.ownsRow_nil ..) a m c news hl hnews h1 (by omega) (by simpa using hb) (Nat.le_refl _)
    exact ⟨v', w', r1, by simpa using r2, r3⟩
  | some b =>
    have hmm : m ≤ 9223372036854775807 := by unfold maxLen at h63; omega
    have hr := run_append_grow (P := P) w t ty e inf z ht hi hz b 0 0 [] (by simp) (fun j u hj => by simp at hj) a m c news (by rw [e2]; exact hl) hnews (by omega) (by omega) (by rw [e3]; exact growslice_fits (by omega) (by simpa using hb))
    have hge := grownCap_ge w (0 + m) 0 e
    have hcm := grownCap_le_maxLen w (0 + m) 0 e (by simpa using h63)
    refine ⟨_, _, hr, ⟨hl, .inr ⟨w.heap.size, grownCap w (0 + m) 0 e, _, by simp only [Nat.zero_add], Nat.le_refl _, heap_alloc_new w.drew _, by simpa using hge, by simpa using hcm, ?_, ?_⟩⟩, ⟨rfl, rfl, rfl, by simp, fun k hk _ => heap_alloc_old w.drew _ hk⟩⟩
    · simp only [Array.size_append, List.size_toArray, size_zeroCells, e4, hl, List.length_nil, Nat.zero_add, ← Nat.add_mul] at hge ⊢
      congr 1
      omega
    · simp only [Array.toList_append, List.nil_append]
      rw [← hl]
      exact List.take_left
theorem run_append_zero0 {t ty e sz : TypeId} {A A2 : Option Addr} {c : Nat} (ht : P.underlying t = some (.slice e)) (hs : sizeB P e sz = true) (w : World) : (Builtin.append_ #[t, t] ty #[.slice A 0 0, .slice A2 0 c]).run P w = .ok (.slice A 0 0) w := by
  unfold Builtin.append_
  simp only [List.getElem?_toArray, List.getElem?_cons_zero, List.getElem?_cons_succ]
  rw [Sem.run_bind, run_underlying ht, Result.andThen_ok]
  dsimp only
  rw [Sem.run_bind, sizeB_run hs, Result.andThen_ok]
  rw [Sem.run_bind, run_underlying ht, Result.andThen_ok]
  dsimp only
  rw [Sem.run_bind, Sem.run_pure, Result.andThen_ok]
  simp only [Bool.false_eq_true, if_false, Bool.not_false, if_true]
  have h1 : (Builtin.lenOf (.slice A2 0 c)).run P w = .ok 0 w := rfl
  rw [Sem.run_bind, h1, Result.andThen_ok]
  rw [if_pos (by omega)]
  rw [Sem.run_bind, firstCells_nil sz w A2 c, Result.andThen_ok]
  cases A with
  | none => rfl
  | some a => simp [storeCells]
/-- append to a slice of one's own -/
theorem op_append {α : Type} {R : Rep α} {x y : Operand} {t e : TypeId} {v v2 : Value} {xs ys : List α} {c2 : Chunk} {sz by_ : Nat} (i j : Nat) (hi : L[i]? = some (ownC R e v xs)) (hj : L[j]? = some c2) (he : Els R v2 ys c2) (hx : evE s x = some v) (hy : evE s y = some v2) (ht : P.underlying t = some (.slice e)) (hz : zeroB P e sz by_ = true) (hsz : R.sz = sz) (hby : Nat.ble by_ 127 = true) (hb : xs.length + ys.length ≤ 1099511627776) : OpX P s L ⟨d, .call ⟨.builtin .append, #[x, y], #[t, t]⟩, ty, pos, af, gd⟩ fun u L' => ∃ A n c, u = .slice A n c ∧ L' = L.set i (ownC R e (.slice A n c) (xs ++ ys)) := fun ρ hρ Z w hw => by
  have hbuilt := run_builtin (P := P) (ρ := ρ) (d := d) (ty := ty) (pos := pos) (af := af) (gd := gd) (b := .append) (xs := [x, y]) (ats := #[t, t]) (vs := [v, v2]) (by simp [hρ x _ hx, hρ y _ hy]) w
  have hby' := Nat.le_of_ble_eq_true hby
  unfold zeroB at hz
  cases hinfo : P.info? e with
  | none => rw [hinfo] at hz; cases hz
  | some inf =>
    rw [hinfo] at hz
    simp only [Bool.and_eq_true] at hz
    obtain ⟨⟨⟨q2, q3⟩, q4⟩, q5⟩ := hz
    cases hzz : inf.zero with
    | none => rw [hzz] at q4; cases q4
    | some z =>
      rw [hzz] at q4
      have e2 := Nat.eq_of_beq_eq_true q2
      have e3 := Nat.eq_of_beq_eq_true q3
      have e4 := Nat.eq_of_beq_eq_true q4
      have e5 : 0 < sz := by have h6 : 1 ≤ sz := (by simpa [Nat.blt] using q5); omega
      have hsB : sizeB P e sz = true := by unfold sizeB; rw [hinfo]; exact q2
      subst hsz
      have hw0 := hw
      obtain ⟨T, S, hT⟩ := hw
      have hc2 := hT.ok (fr_get hj)
      obtain ⟨vss1, g1, g23⟩ := hT.ok (fr_get hi)
      obtain ⟨A2, cap2, rfl, k2, k3, k4⟩ := he _ _ _ hc2
      rcases g23 with ⟨g2, g3⟩ | ⟨hx0, A0, rfl⟩
      rotate_left
      · obtain rfl : xs = [] := List.eq_nil_of_length_eq_zero hx0
        rcases Nat.eq_zero_or_pos ys.length with h0 | h0
        · have hys : ys = [] := List.eq_nil_of_length_eq_zero h0
          subst hys
          refine .inl ⟨.slice A0 0 0, w, L, ?_, hw0, A0, 0, 0, rfl, ?_⟩
          · rw [hbuilt]
            simp only [builtin, Sem.run_bind]
            have r1' : (Builtin.append_ #[t, t] ty [Value.slice A0 0 0, .slice A2 ([] : List α).length cap2].toArray).run P w = .ok (.slice A0 0 0) w := run_append_zero0 ht hsB w
            rw [r1']
            rfl
          · apply List.ext_getElem?
            intro q
            by_cases e : i = q
            · subst e; rw [List.getElem?_set_self (List.getElem?_eq_some_iff.1 hi).1, hi]; rfl
            · rw [List.getElem?_set_ne e]
        · obtain ⟨b, o, vss2, rfl, k5, k6⟩ := k4 h0
          have hm : ys.length * by_ ≤ 140737488355328 := Nat.le_trans (Nat.mul_le_mul (by simpa using hb) hby') (by decide)
          obtain ⟨v', w', r1, r2, r3⟩ := run_append_zero (ty := ty) (A := A0) w inf z R.sz by_ ht hinfo hzz e2 e3 e4 e5 ⟨b, o, none⟩ ys.length cap2 vss2.flatten (rows_len k5) (fun j u hj => by rw [at_add']; exact k6 j u hj) (List.all_eq_true.1 (rows_one k5)) h0 (by simp only [List.length_nil] at hb; unfold maxLen; omega) hm
          have hsh : ∃ A c, v' = .slice A ys.length c := by
            rcases r2.2 with ⟨rfl, h9⟩ | ⟨g, cap, cur, rfl, -⟩
            · omega
            · exact ⟨_, cap, rfl⟩
          obtain ⟨A', c', hv'⟩ := hsh
          refine .inl ⟨v', w', L.set i (ownC R e v' ([] ++ ys)), ?_, ?_, A', _, c', hv', by rw [hv']⟩
          · rw [hbuilt]
            simp only [builtin, Sem.run_bind]
            have r1' : (Builtin.append_ #[t, t] ty [Value.slice A0 0 0, .slice (some ⟨b, o, none⟩) ys.length cap2].toArray).run P w = .ok v' w' := r1
            rw [r1']
            rfl
          · have hfin : SepL ((L ++ Z).set i (ownC R e v' ([] ++ ys))) w' := by
              refine hT.upd (fr_get hi) (T' := fun q => v'.ownBlock = some q) ⟨r3.os, r3.tape, r3.output, r3.size, fun q hq _ => r3.block q hq fun e => by cases e⟩ (fun q hq => .inr (World.ownsRow.lt r2 q hq).1) (fun q hq => (World.ownsRow.lt r2 q hq).2) ?_
              have hS : Agr S w w' := ⟨r3.os, r3.tape, r3.output, r3.size, fun q hq _ => r3.block q hq fun e => by cases e⟩
              refine ⟨vss2, by rw [List.nil_append]; exact k5.imp fun _ _ => R.loc hS, .inl ⟨?_, fun _ h => h⟩⟩
              have r2' : w'.ownsRow 0 e R.sz v' ys.length vss2.flatten := ⟨r2.1, r2.2.imp id fun ⟨g, cap, cur, q1, _, q3⟩ => ⟨g, cap, cur, q1, Nat.zero_le _, q3⟩⟩
              simpa using r2'
            rw [fr_set Z hi] at hfin
            exact hfin
      have hv : ∃ A cap, v = .slice A xs.length cap := by
        rcases g2.2 with ⟨rfl, h0⟩ | ⟨g, cap, cur, rfl, -⟩
        · exact ⟨none, 0, by rw [h0]⟩
        · exact ⟨_, cap, rfl⟩
      rcases Nat.eq_zero_or_pos ys.length with h0 | h0
      · -- nothing is appended
        have hys : ys = [] := List.eq_nil_of_length_eq_zero h0
        subst hys
        obtain ⟨Av, capv, hv⟩ := hv
        have hset : L.set i (ownC R e (.slice Av xs.length capv) (xs ++ [])) = L := by
          rw [List.append_nil, ← hv]
          apply List.ext_getElem?
          intro q
          by_cases e : i = q
          · subst e; rw [List.getElem?_set_self (List.getElem?_eq_some_iff.1 hi).1, hi]
          · rw [List.getElem?_set_ne e]
        refine .inl ⟨v, w, L, ?_, hw0, Av, _, capv, hv, hset.symm⟩
        rw [hbuilt]
        simp only [builtin, Sem.run_bind]
        have r1' : (Builtin.append_ #[t, t] ty [v, .slice A2 ([] : List α).length cap2].toArray).run P w = .ok v w := run_append_none ht hsB w g2
        rw [r1']
        rfl
      · obtain ⟨b, o, vss2, rfl, k5, k6⟩ := k4 h0
        have hm : (xs.length + ys.length) * by_ ≤ 140737488355328 := Nat.le_trans (Nat.mul_le_mul hb hby') (by decide)
        obtain ⟨v', w', r1, r2, r3, -⟩ := run_append_own w 0 t ty e inf z R.sz by_ ht hinfo hzz e2 e3 e4 e5 v xs.length vss1.flatten g2 ⟨b, o, none⟩ ys.length cap2 vss2.flatten (rows_len k5) (fun j u hj => by rw [at_add']; exact k6 j u hj) (List.all_eq_true.1 (rows_one k5)) (by unfold maxLen; omega) hm (Nat.zero_le _)
        have hsh : ∃ A c, v' = .slice A (xs.length + ys.length) c := by
          rcases r2.2 with ⟨rfl, h9⟩ | ⟨g, cap, cur, rfl, -⟩
          · omega
          · exact ⟨_, cap, rfl⟩
        obtain ⟨A', c', hv'⟩ := hsh
        have hnew : ∀ q, v'.ownBlock = some q → v.ownBlock = some q ∨ w.heap.size ≤ q := by
          intro q hq
          rcases g2.2 with ⟨rfl, hx0⟩ | ⟨g, cap, cur, rfl, -⟩
          · rcases Nat.lt_or_ge q w.heap.size with hlt | hge
            · exfalso
              have hz0 : vss1.flatten = [] := List.eq_nil_of_length_eq_zero (by rw [g2.1, hx0]; simp)
              obtain ⟨v3, w3, e1', e2', -⟩ := run_append_own w w.heap.size t ty e inf z R.sz by_ ht hinfo hzz e2 e3 e4 e5 (.slice none 0 0) 0 [] (World.ownsRow_nil ..) ⟨b, o, none⟩ ys.length cap2 vss2.flatten (rows_len k5) (fun j u hj => by rw [at_add']; exact k6 j u hj) (List.all_eq_true.1 (rows_one k5)) (by unfold maxLen; omega) (Nat.le_trans (Nat.mul_le_mul_right _ (by omega)) hm) (Nat.le_refl _)
              rw [r1] at e1'
              simp only [Result.ok.injEq] at e1'
              obtain ⟨rfl, rfl⟩ := e1'
              have := (World.ownsRow.lt e2' q hq).1
              omega
            · exact .inr hge
          · rcases app_block ht r1 with h | ⟨q', h, h'⟩
            · rw [h] at hq; cases hq; exact .inl rfl
            · rw [h] at hq; cases hq; exact .inr h'
        refine .inl ⟨v', w', L.set i (ownC R e v' (xs ++ ys)), ?_, ?_, A', _, c', hv', by rw [hv']⟩
        · rw [hbuilt]
          simp only [builtin, Sem.run_bind]
          have r1' : (Builtin.append_ #[t, t] ty [v, .slice (some ⟨b, o, none⟩) ys.length cap2].toArray).run P w = .ok v' w' := r1
          rw [r1']
          rfl
        · have hfin : SepL ((L ++ Z).set i (ownC R e v' (xs ++ ys))) w' := by
            refine hT.upd (fr_get hi) (T' := fun q => v'.ownBlock = some q) ⟨r3.os, r3.tape, r3.output, r3.size, fun q hq hn => r3.block q hq fun e => hn (g3 q e.symm)⟩ (fun q hq => (hnew q hq).elim (fun h => .inl (g3 q h)) .inr) (fun q hq => (World.ownsRow.lt r2 q hq).2) ?_
            have hS : Agr S w w' := ⟨r3.os, r3.tape, r3.output, r3.size, fun q hq hn => r3.block q hq fun e => hT.ro (g3 q e.symm) hn⟩
            exact ⟨vss1 ++ vss2, (g1.imp fun _ _ => R.loc hS).append (k5.imp fun _ _ => R.loc hS), .inl ⟨by rw [List.flatten_append, List.length_append]; exact r2, fun _ h => h⟩⟩
          rw [fr_set Z hi] at hfin
          exact hfin
end
end Go.Proofs.Ytmbaennilhdieaa
