/- The walk over chunks: maps; boxes that are only read. Over any program. -/
import Derived.Test.YtmbaennilhdieaaA8
namespace Go.Proofs.Ytmbaennilhdieaa
open Go.RowKit

theorem Mp.agr {α β : Type} {ek : α → Value} {ev : β → Value} {X : Nat → Prop} {w w' : World} {m : Nat} {L : List (α × β)} (h : Mp w m ek ev L) (hx : Agr X w w') (hm : X m) : Mp w' m ek ev L := by
  have hlt := h.lt
  obtain ⟨es, clk, h1, h2⟩ := h
  exact ⟨es, clk, (hx.block m hlt hm).trans h1, h2⟩
def mapC {α β : Type} (ek : α → Value) (ev : β → Value) (m : Nat) (kv : List (α × β)) : Chunk where
  ok T _ w := T m ∧ Mp w m ek ev kv
  loc := fun h ⟨h1, h2⟩ => ⟨h1, h2.agr h (.inl h1)⟩
  mono := fun _ h => h
  ro := false
  dup := fun h => Bool.noConfusion h
def romC {α β : Type} (ek : α → Value) (ev : β → Value) (m : Nat) (kv : List (α × β)) : Chunk where
  ok _ S w := S m ∧ Mp w m ek ev kv
  loc := fun h ⟨h1, h2⟩ => ⟨h1, h2.agr h (.inr h1)⟩
  mono := fun h ⟨h1, h2⟩ => ⟨h _ h1, h2⟩
  ro := true
  dup := fun _ _ _ _ h => h
def rboxC (b : Nat) (t : TypeId) (cs : List Value) : Chunk where
  ok _ S w := S b ∧ Blk w b t cs.toArray
  loc := fun h ⟨h1, h2⟩ => ⟨h1, h2.agr h (.inr h1)⟩
  mono := fun h ⟨h1, h2⟩ => ⟨h _ h1, h2⟩
  ro := true
  dup := fun _ _ _ _ h => h
def MapOf {α β : Type} (ek : α → Value) (ev : β → Value) (m : Nat) (kv : List (α × β)) (c : Chunk) : Prop := ∀ T S w, c.ok T S w → Mp w m ek ev kv
theorem map_rw {α β : Type} {ek : α → Value} {ev : β → Value} {m : Nat} {kv : List (α × β)} : MapOf ek ev m kv (mapC ek ev m kv) := fun _ _ _ h => h.2
theorem map_ro {α β : Type} {ek : α → Value} {ev : β → Value} {m : Nat} {kv : List (α × β)} : MapOf ek ev m kv (romC ek ev m kv) := fun _ _ _ h => h.2
theorem lent_box {L : List Chunk} {b : Nat} {t : TypeId} {cs : List Value} {i : Nat} (hi : L[i]? = some (boxC b t cs)) : Lent L (rboxC b t cs) := fun _ _ _ h => ⟨(h.ok hi).2.lt, (h.ok hi).2⟩
theorem lent_map {α β : Type} {ek : α → Value} {ev : β → Value} {L : List Chunk} {m : Nat} {kv : List (α × β)} {i : Nat} (hi : L[i]? = some (mapC ek ev m kv)) : Lent L (romC ek ev m kv) := fun _ _ _ h => ⟨(h.ok hi).2.lt, (h.ok hi).2⟩
def ekI (a : Int) : Value := .int .i64 a
def evB (b : Bool) : Value := .bool b
def evI (a : Int) : Value := .int .i64 a
def evU (_ : Unit) : Value := .agg #[]
/-- without the key a -/
def delL {α β : Type} [DecidableEq α] (L : List (α × β)) (a : α) : List (α × β) := match fp a L 0 with
  | some (i, _) => L.eraseIdx i
  | none => L
section
variable {P : Program}
theorem keyOk_int {kt : TypeId} (hu : P.underlying kt = some (.int .i64)) : KeyOk P kt ekI where
  und := ⟨_, hu, fun a b => by
    unfold ekI Instr.sameNow
    first
      | exact .inr (by simp; rfl)
      | exact .inl rfl⟩
  eq := fun a b w => by
    have h := run_equalIn_int (P := P) w 9999 kt .i64 .i64 a b hu
    show (Op.equalIn 10000 kt (.int .i64 a) (.int .i64 b)).run P w = _
    rw [h]
    rfl
  check := fun e a w => by
    show (Instr.checkKey e (9999 + 1) kt (.int .i64 a)).run P w = _
    unfold Instr.checkKey
    rw [Sem.run_bind, run_underlying hu, Result.andThen_ok]
    rfl
  bits := fun a => by
    show Instr.sameBits (9999 + 1) (.int .i64 a) (.int .i64 a) = true
    unfold Instr.sameBits
    simp
variable {s : Env} {L : List Chunk} {d : Option Nat} {ty : TypeId} {pos : String} {af : Array Edge} {gd : Option (Nat × Bool)}
theorem rd_rbox1 {t bt : TypeId} {x : Operand} {b o : Nat} {cs : List Value} {u : Value} (i : Nat) (hi : L[i]? = some (rboxC b bt cs)) (hx : evE s x = some (.pointer (some ⟨b, o, none⟩))) (hu : oneB P t = true) (hc : cs[o]? = some u) : Rd P s L ⟨d, .load t x, ty, pos, af, gd⟩ u := fun Z w hw => by
  obtain ⟨T, S, -, h⟩ := hw.get (fr_get hi)
  exact ev_load1 hx hu (here (p := fun w => w.cell? ⟨b, o, none⟩ = some u) (h.at (by simpa using hc)))
theorem rd_rboxS {t bt : TypeId} {x : Operand} {b o : Nat} {cs us : List Value} (i : Nat) (hi : L[i]? = some (rboxC b bt cs)) (hx : evE s x = some (.pointer (some ⟨b, o, none⟩))) (hu : aggB P t us.length = true) (hc : (cs.drop o).take us.length = us) : Rd P s L ⟨d, .load t x, ty, pos, af, gd⟩ (.agg us.toArray) := fun Z w hw => by
  obtain ⟨T, S, -, h⟩ := hw.get (fr_get hi)
  have h5 := h.all.part o us.length
  rw [hc, Nat.zero_add] at h5
  exact ev_loadS hx (here (p := fun w => CellsAt w b o us) h5) hu
variable {α β : Type} [DecidableEq α] {ek : α → Value} {ev : β → Value} {kt et t : TypeId}
theorem lk_val (kv : List (α × β)) (a : α) (z : β) : (match lk kv a with | some b => ev b | none => ev z) = ev ((lk kv a).getD z) := by cases lk kv a <;> rfl
theorem rd_look2 {x y : Operand} {m : Nat} {a : α} {kv : List (α × β)} {z : β} {c : Chunk} (i : Nat) (hi : L[i]? = some c) (hm : MapOf ek ev m kv c) (hx : evE s x = some (.map (some m))) (hy : evE s y = some (ek a)) (ht : P.underlying t = some (.map kt et)) (hk : KeyOk P kt ek) (hz : ∀ w, (zeroValue et).run P w = .ok (ev z) w) : Rd P s L ⟨d, .lookup t x y true, ty, pos, af, gd⟩ (.tuple #[ev ((lk kv a).getD z), .bool (lk kv a).isSome]) := fun Z w hw => by
  obtain ⟨T, S, h⟩ := hw.get (fr_get hi)
  rw [← lk_val (ev := ev)]
  exact ev_lookup2 hx hy ht hk hz (fun w' e => by subst e; exact hm _ _ _ h)
omit [DecidableEq α] in
theorem map_upd {Z : List Chunk} {w : World} {m : Nat} {kv kv' : List (α × β)} (i : Nat) (hw : Sp Z L w) (hi : L[i]? = some (mapC ek ev m kv)) {o : Obj} (h : Mp { w with heap := w.heap.setIfInBounds m o } m ek ev kv') : Sp Z (L.set i (mapC ek ev m kv')) { w with heap := w.heap.setIfInBounds m o } := by
  have hf := setObj_fr w m o
  have h2 := SepL.upd (w' := { w with heap := w.heap.setIfInBounds m o }) hw (fr_get hi) (d := mapC ek ev m kv') fun T S ⟨g1, g2⟩ g3 _ _ => ⟨Agr.of_fr hf fun q hq e => hq (e ▸ g1), T, fun _ => .inl, fun q hq => Nat.lt_of_lt_of_le (g3 q hq) hf.size, g1, h⟩
  rw [fr_set Z hi] at h2
  exact h2
theorem op_mapUpdate {x y u : Operand} {m : Nat} {a : α} {b : β} {kv : List (α × β)} (i : Nat) (hi : L[i]? = some (mapC ek ev m kv)) (hx : evE s x = some (.map (some m))) (hy : evE s y = some (ek a)) (hu : evE s u = some (ev b)) (ht : P.underlying t = some (.map kt et)) (hk : KeyOk P kt ek) : OpX P s L ⟨d, .mapUpdate t x y u, ty, pos, af, gd⟩ fun _ L' => L' = L.set i (mapC ek ev m (upL kv a b)) := fun ρ hρ Z w hw => by
  obtain ⟨T, S, -, hm⟩ := hw.get (fr_get hi)
  have hlt := hm.lt
  obtain ⟨es, clk, h1, h2, h3, h4⟩ := hm
  have hget : (getObj m).run P w = .ok (.map es clk) w := by simp [getObj, Sem.run, h1]
  have hset : ∀ o, (setObj m o).run P w = .ok () { w with heap := w.heap.setIfInBounds m o } := fun o => by simp [setObj, Sem.run, h1]
  cases hf : fp a kv 0 with
  | none =>
    refine .inr (.inl ⟨{ w with heap := w.heap.setIfInBounds m (.map (es.push ⟨ek a, ev b, clk⟩) (clk + 1)) }, _, ?_, map_upd i hw hi (kv' := upL kv a b) ⟨es.push ⟨ek a, ev b, clk⟩, clk + 1, by simp [hlt], ?_, ?_, ?_⟩, rfl⟩)
    · unfold execOp
      simp only [hρ x _ hx, hρ y _ hy, hρ u _ hu, Instr.mapUpdate, Sem.run_bind, run_underlying ht, Result.andThen_ok, hget, hk.check, run_findKey hk a w es.toList kv h2, hf, Option.map_none, hset]
      rfl
    · simp [upL, hf, h2]
    · simp only [Array.toList_push]
      rw [List.pairwise_append]
      exact ⟨h3, by simp, fun e he e' he' => by simp only [List.mem_singleton] at he'; subst he'; exact h4 e he⟩
    · intro e he
      simp only [Array.toList_push, List.mem_append, List.mem_singleton] at he
      rcases he with he | rfl
      · have := h4 e he; omega
      · simp
  | some p =>
    obtain ⟨q, c⟩ := p
    obtain ⟨-, hq⟩ := fp_at a kv 0 q c hf
    rw [Nat.sub_zero] at hq
    have hil : q < kv.length := (List.getElem?_eq_some_iff.1 hq).1
    have hlen : es.size = kv.length := by simpa using congrArg List.length h2
    have hei : q < es.size := by omega
    have hkey : es[q].key = ek a := by
      have h5 := congrArg (fun l => l[q]?) h2
      simp only [List.getElem?_map, hq, Option.map_some] at h5
      simp [hei] at h5
      exact h5.1
    refine .inr (.inl ⟨{ w with heap := w.heap.setIfInBounds m (.map (es.modify q fun e => { e with key := ek a, val := ev b }) clk) }, _, ?_, map_upd i hw hi (kv' := upL kv a b) ⟨es.modify q fun e => { e with key := ek a, val := ev b }, clk, by simp [hlt], ?_, ?_, ?_⟩, rfl⟩)
    · unfold execOp
      have hst : (Instr.keyThatStays (ek a) (ek a)).run P w = .ok (ek a) w := by unfold Instr.keyThatStays; rw [if_pos (hk.bits a)]; rfl
      simp only [hρ x _ hx, hρ y _ hy, hρ u _ hu, Instr.mapUpdate, Sem.run_bind, run_underlying ht, Result.andThen_ok, hget, hk.check, run_findKey hk a w es.toList kv h2, hf, Option.map_some, Array.getElem?_eq_getElem hei, Option.getD_some, hkey, hst, hset]
      rfl
    · simp only [upL, hf, Array.toList_modify]
      apply List.ext_getElem?
      intro j
      have h5 := congrArg (fun l => l[j]?) h2
      simp only [List.getElem?_map] at h5
      simp only [List.getElem?_map, List.getElem?_modify, List.getElem?_set]
      by_cases e : q = j
      · subst e
        simp [hil, hei]
      · simp [e]
        simpa using h5
    · simp only [Array.toList_modify]
      rw [List.pairwise_iff_getElem] at h3 ⊢
      intro j j' hj hj' hlt'
      simp only [List.length_modify] at hj hj'
      have := h3 j j' hj hj' hlt'
      simp only [List.getElem_modify]
      split <;> split <;> exact this
    · intro e he
      simp only [Array.toList_modify] at he
      obtain ⟨j, hj, rfl⟩ := List.getElem_of_mem he
      simp only [List.length_modify] at hj
      have := h4 _ (List.getElem_mem hj)
      simp only [List.getElem_modify]
      split <;> exact this
omit [DecidableEq α] in
theorem op_makeMap : OpX P s L ⟨d, .makeMap t none, ty, pos, af, gd⟩ fun u L' => ∃ m, u = .map (some m) ∧ L' = mapC ek ev m ([] : List (α × β)) :: L := fun ρ hρ Z w hw => by
  refine .inl ⟨.map (some w.heap.size), w.alloc (.map #[] 0), mapC ek ev w.heap.size [] :: L, rfl, SepL.new hw (Agr.of_ext ((Ext.refl w).alloc _)) fun _ S _ => ⟨(· = w.heap.size), fun q hq => by subst hq; simp, rfl, #[], 0, heap_alloc_new w _, by simp, by simp, by simp⟩, _, rfl, rfl⟩
end
end Go.Proofs.Ytmbaennilhdieaa
