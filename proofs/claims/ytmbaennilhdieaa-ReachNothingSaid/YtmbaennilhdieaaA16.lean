/- Parallel assignment to map entries. Over any program. -/
import Derived.Test.YtmbaennilhdieaaA15
namespace Go.Proofs.Ytmbaennilhdieaa
open Go.RowKit

theorem ent_upd {L Z : List Chunk} {w : World} {m : Nat} {c : Chunk} (i : Nat) (hw : Sp Z L w) (hi : L[i]? = some c) (hc : ∀ T S, c.ok T S w → T m) (d : Chunk) {o : Obj} (h : ∀ T S : Nat → Prop, T m → d.ok T S { w with heap := w.heap.setIfInBounds m o }) : Sp Z (L.set i d) { w with heap := w.heap.setIfInBounds m o } := by
  have h1 := SepL.upd (i := i) (c := c) (d := d) (w' := { w with heap := w.heap.setIfInBounds m o }) hw (fr_get hi) fun T S hk h2 h3 _ => ⟨⟨rfl, rfl, rfl, by simp, fun q hq hn => by
    have : m ≠ q := fun e => hn (e ▸ hc T S hk)
    simp [Array.getElem?_setIfInBounds_ne this]⟩, T, fun _ => .inl, fun q hq => by have := h2 q hq; simpa using this, h T S (hc T S hk)⟩
  rw [fr_set Z hi] at h1
  exact h1
section
variable {α β : Type} [DecidableEq α] {ek : α → Value} {ev : β → Value}
/-- a map, one entry of which bears the stamp s -/
def MpE (w : World) (m : Nat) (ek : α → Value) (ev : β → Value) (kv : List (α × β)) (a : α) (s : Nat) : Prop :=
  ∃ es clk, w.heap[m]? = some (.map es clk) ∧ es.toList.map (fun e => (e.key, e.val)) = kv.map (fun p => (ek p.1, ev p.2)) ∧ es.toList.Pairwise (fun a b => a.born < b.born) ∧ (∀ e ∈ es.toList, e.born < clk) ∧ ∃ q e b, es[q]? = some e ∧ e.born = s ∧ e.key = ek a ∧ fp a kv 0 = some (q, b)
def entC (ek : α → Value) (ev : β → Value) (m : Nat) (kv : List (α × β)) (a : α) (s : Nat) : Chunk where
  ok T _ w := T m ∧ MpE w m ek ev kv a s
  loc := fun {T S w w'} h ⟨h1, es, clk, g1, g2⟩ => ⟨h1, es, clk, (h.block m (by rcases Nat.lt_or_ge m w.heap.size with hl | hl; exact hl; rw [Array.getElem?_eq_none hl] at g1; cases g1) (.inl h1)).trans g1, g2⟩
  mono := fun _ h => h
  ro := false
  dup := fun h => Bool.noConfusion h
def entL (kv : List (α × β)) (a : α) (z : β) : List (α × β) := match fp a kv 0 with
  | some _ => kv
  | none => kv ++ [(a, z)]
theorem fp_app (a : α) (z : β) : ∀ (kv : List (α × β)) (i j : Nat), fp a kv i = none → i + kv.length = j → fp a (kv ++ [(a, z)]) i = some (j, z)
  | [], i, j, _, e => by
    simp only [List.length_nil, Nat.add_zero] at e
    subst e
    show fp a [(a, z)] i = _
    unfold fp
    rw [if_pos rfl]
  | (k, c) :: kv, i, j, h, e => by
    unfold fp at h
    split at h
    · cases h
    · rename_i hne
      show fp a ((k, c) :: (kv ++ [(a, z)])) i = _
      unfold fp
      rw [if_neg hne]
      exact fp_app a z kv (i + 1) j h (by rw [List.length_cons] at e; omega)
variable {P : Program} {s : Env} {L : List Chunk} {d : Option Nat} {ty t kt et : TypeId} {pos : String} {af : Array Edge} {gd : Option (Nat × Bool)}
theorem op_mapEntry {x y : Operand} {m : Nat} {a : α} {z : β} {kv : List (α × β)} (i : Nat) (hi : L[i]? = some (mapC ek ev m kv)) (hx : evE s x = some (.map (some m))) (hy : evE s y = some (ek a)) (ht : P.underlying t = some (.map kt et)) (hk : KeyOk P kt ek) (hz : ∀ w, (zeroValue et).run P w = .ok (ev z) w) : OpX P s L ⟨d, .mapEntry t x y, ty, pos, af, gd⟩ fun u L' => ∃ k : Nat, u = .tuple #[ev ((lk kv a).getD z), .int .i64 (k : Int)] ∧ L' = L.set i (entC ek ev m (entL kv a z) a k) := fun ρ hρ Z w hw => by
  obtain ⟨T, S, hT, hm⟩ := hw.get (fr_get hi)
  have hlt := hm.lt
  obtain ⟨es, clk, h1, h2, h3, h4⟩ := hm
  have hget : (getObj m).run P w = .ok (.map es clk) w := by simp [getObj, Sem.run, h1]
  have hset : ∀ o, (setObj m o).run P w = .ok () { w with heap := w.heap.setIfInBounds m o } := fun o => by simp [setObj, Sem.run, h1]
  have hlk := fp_lk a kv 0
  cases hf : fp a kv 0 with
  | none =>
    rw [hf] at hlk
    have hl : lk kv a = none := by simpa using hlk.symm
    refine .inl ⟨.tuple #[ev z, goInt clk], { w with heap := w.heap.setIfInBounds m (.map (es.push ⟨ek a, ev z, clk⟩) (clk + 1)) }, _, ?_, ent_upd i hw hi (fun T S h => h.1) (entC ek ev m (kv ++ [(a, z)]) a clk) (fun T S hTm => ⟨hTm, es.push ⟨ek a, ev z, clk⟩, clk + 1, by simp [hlt], ?_, ?_, ?_, es.size, ⟨ek a, ev z, clk⟩, z, by simp, rfl, rfl, ?_⟩), clk, by rw [hl]; rfl, by unfold entL; rw [hf]⟩
    · unfold execOp
      simp only [hρ x _ hx, hρ y _ hy, Instr.mapEntry, Sem.run_bind, run_underlying ht, Result.andThen_ok, hget, hk.check, run_findKey hk a w es.toList kv h2, hf, Option.map_none, hz, hset, Sem.run_pure]
    · simp [h2]
    · simp only [Array.toList_push]
      rw [List.pairwise_append]
      exact ⟨h3, by simp, fun e he e' he' => by simp only [List.mem_singleton] at he'; subst he'; exact h4 e he⟩
    · intro e he
      simp only [Array.toList_push, List.mem_append, List.mem_singleton] at he
      rcases he with he | rfl
      · have := h4 e he; omega
      · simp
    · exact fp_app a z kv 0 es.size hf (by rw [Nat.zero_add]; simpa using (congrArg List.length h2).symm)
  | some p =>
    obtain ⟨q, c⟩ := p
    rw [hf] at hlk
    have hl : lk kv a = some c := by simpa using hlk.symm
    obtain ⟨-, hq⟩ := fp_at a kv 0 q c hf
    rw [Nat.sub_zero] at hq
    have hil : q < kv.length := (List.getElem?_eq_some_iff.1 hq).1
    have hlen : es.size = kv.length := by simpa using congrArg List.length h2
    have hei : q < es.size := by omega
    have hkv : es[q].key = ek a ∧ es[q].val = ev c := by
      have h5 := congrArg (fun l => l[q]?) h2
      simp only [List.getElem?_map, hq, Option.map_some] at h5
      simp [hei] at h5
      exact h5
    refine .inl ⟨.tuple #[ev c, goInt es[q].born], { w with heap := w.heap.setIfInBounds m (.map (es.modify q fun e => { e with key := ek a }) clk) }, _, ?_, ent_upd i hw hi (fun T S h => h.1) (entC ek ev m kv a es[q].born) (fun T S hTm => ⟨hTm, es.modify q fun e => { e with key := ek a }, clk, by simp [hlt], ?_, ?_, ?_, q, { es[q] with key := ek a }, c, ?_, rfl, rfl, hf⟩), es[q].born, by rw [hl]; rfl, by unfold entL; rw [hf]⟩
    · unfold execOp
      have hst : (Instr.keyThatStays (ek a) (ek a)).run P w = .ok (ek a) w := by unfold Instr.keyThatStays; rw [if_pos (hk.bits a)]; rfl
      simp only [hρ x _ hx, hρ y _ hy, Instr.mapEntry, Sem.run_bind, run_underlying ht, Result.andThen_ok, hget, hk.check, run_findKey hk a w es.toList kv h2, hf, Option.map_some, Array.getElem?_eq_getElem hei, Option.getD_some, hkv.1, hst, hset, Sem.run_pure]
    · rw [← h2]
      simp only [Array.toList_modify]
      apply List.ext_getElem?
      intro j
      simp only [List.getElem?_map, List.getElem?_modify]
      by_cases e : q = j
      · subst e
        simp [hei, hkv.1]
      · simp [e]
    · simp only [Array.toList_modify]
      rw [List.pairwise_iff_getElem] at h3 ⊢
      intro j j' hj hj' hlt'
      simp only [List.length_modify] at hj hj'
      have := h3 j j' hj hj' hlt'
      simp only [List.getElem_modify]
      split <;> split <;> exact this
    · intro e he
      simp only [Array.toList_modify] at he
      obtain ⟨j, hj, rfl⟩ := List.getElem_of_mem he
      simp only [List.length_modify] at hj
      have := h4 _ (List.getElem_mem hj)
      simp only [List.getElem_modify]
      split <;> exact this
    · rw [Array.getElem?_eq_getElem (by simpa using hei), Array.getElem_modify, if_pos rfl]
theorem op_entryStore {x y u : Operand} {m k : Nat} {a : α} {b : β} {kv : List (α × β)} (i : Nat) (hi : L[i]? = some (entC ek ev m kv a k)) (hx : evE s x = some (.map (some m))) (hy : evE s y = some (.int .i64 (k : Int))) (hu : evE s u = some (ev b)) : OpX P s L ⟨d, .entryStore t x y u, ty, pos, af, gd⟩ fun _ L' => L' = L.set i (mapC ek ev m (upL kv a b)) := fun ρ hρ Z w hw => by
  obtain ⟨T, S, hT, es, clk, h1, h2, h3, h4, q, e, c, hq, hb, hk, hf⟩ := hw.get (fr_get hi)
  have hlt : m < w.heap.size := by
    rcases Nat.lt_or_ge m w.heap.size with hl | hl
    · exact hl
    · rw [Array.getElem?_eq_none hl] at h1; cases h1
  have hget : (getObj m).run P w = .ok (.map es clk) w := by simp [getObj, Sem.run, h1]
  have hset : ∀ o, (setObj m o).run P w = .ok () { w with heap := w.heap.setIfInBounds m o } := fun o => by simp [setObj, Sem.run, h1]
  obtain ⟨hqs, heq⟩ := Array.getElem?_eq_some_iff.1 hq
  have hfind : es.findIdx? (fun e => (e.born : Int) == (k : Int)) = some q := by
    rw [Array.findIdx?_eq_some_iff_getElem]
    refine ⟨hqs, by rw [heq, hb]; simp, fun j hj => ?_⟩
    have h5 := List.pairwise_iff_getElem.1 h3 j q (by simp; omega) (by simpa using hqs) hj
    simp only [Array.getElem_toList] at h5
    rw [heq, hb] at h5
    simp; omega
  obtain ⟨-, hkvq⟩ := fp_at a kv 0 q c hf
  rw [Nat.sub_zero] at hkvq
  have hil : q < kv.length := (List.getElem?_eq_some_iff.1 hkvq).1
  refine .inr (.inl ⟨{ w with heap := w.heap.setIfInBounds m (.map (es.modify q fun e => { e with val := ev b }) clk) }, _, ?_, ent_upd i hw hi (fun T S h => h.1) (mapC ek ev m (upL kv a b)) (fun T S hTm => ⟨hTm, es.modify q fun e => { e with val := ev b }, clk, by simp [hlt], ?_, ?_, ?_⟩), rfl⟩)
  · unfold execOp
    simp only [hρ x _ hx, hρ y _ hy, hρ u _ hu, Instr.entryStore, Sem.run_bind, Sem.run_pure, Result.andThen_ok, hget, asInt, asIntOf, hfind, hset]
  · simp only [upL, hf, Array.toList_modify]
    apply List.ext_getElem?
    intro j
    have h5 := congrArg (fun l => l[j]?) h2
    simp only [List.getElem?_map] at h5
    simp only [List.getElem?_map, List.getElem?_modify, List.getElem?_set]
    by_cases e1 : q = j
    · subst e1
      simp [hil, hqs, heq, hk]
    · simp [e1]
      simpa using h5
  · simp only [Array.toList_modify]
    rw [List.pairwise_iff_getElem] at h3 ⊢
    intro j j' hj hj' hlt'
    simp only [List.length_modify] at hj hj'
    have := h3 j j' hj hj' hlt'
    simp only [List.getElem_modify]
    split <;> split <;> exact this
  · intro e he
    simp only [Array.toList_modify] at he
    obtain ⟨j, hj, rfl⟩ := List.getElem_of_mem he
    simp only [List.length_modify] at hj
    have := h4 _ (List.getElem_mem hj)
    simp only [List.getElem_modify]
    split <;> exact this
end
end Go.Proofs.Ytmbaennilhdieaa
