/- The walk over chunks: parts of slices, calls, ends. Over any program. -/
import Derived.Test.YtmbaennilhdieaaA4
namespace Go.Proofs.Ytmbaennilhdieaa
open Go.RowKit

theorem CellsAt.left {w : World} {b o : Nat} {l m : List Value} (h : CellsAt w b o (l ++ m)) : CellsAt w b o l := fun j u hj => h j u (by rw [List.getElem?_append_left (List.getElem?_eq_some_iff.1 hj).1]; exact hj)
theorem CellsAt.drop {w : World} {b o : Nat} {l : List Value} (h : CellsAt w b o l) (k : Nat) : CellsAt w b (o + k) (l.drop k) := fun j u hj => by
  rw [List.getElem?_drop] at hj
  rw [Nat.add_assoc]
  exact h _ _ hj
theorem SlR.cut {α : Type} {R : Rep α} {S : Nat → Prop} {w : World} {A : Option Addr} {n c : Nat} {xs : List α} (h : SlR R S w (.slice A n c) xs) (l m : Nat) (h1 : l ≤ m) (h2 : m ≤ xs.length) : SlR R S w (.slice (cutA A c l R.sz) (m - l) (c - l)) ((xs.drop l).take (m - l)) := by
  obtain ⟨A', c', e, g1, g2, g3⟩ := h
  injection e with e1 e2 e3
  subst e1 e2 e3
  have hlen : ((xs.drop l).take (m - l)).length = m - l := by rw [List.length_take, List.length_drop]; omega
  refine ⟨cutA A c l R.sz, c - l, by rw [hlen], by omega, by omega, fun h0 => ?_⟩
  rw [hlen] at h0
  obtain ⟨b, o, vss, rfl, k1, k2, k3, k4⟩ := g3 (by omega)
  have hcl : ¬ c = l := by omega
  refine ⟨b, o + l * R.sz, (vss.drop l).take (m - l), ?_, k1, k2, (k3.drop l).take _, ?_⟩
  · unfold cutA
    rw [if_neg hcl]
    simp [at_add']
  · have h5 := k4.drop (l * R.sz)
    rw [← rows_drop k3 l, ← List.take_append_drop (m - l) (vss.drop l), List.flatten_append] at h5
    exact h5.left
section
variable {P : Program} {s : Env} {L : List Chunk} {d : Option Nat} {ty : TypeId} {pos : String} {af : Array Edge} {gd : Option (Nat × Bool)}
/-- which chunks a call takes: copies of ro, rw themselves; keep and what follows from k on stay -/
def takeL (ro rw : List Nat) (L : List Chunk) : List Chunk := ro.filterMap (fun i => L[i]?) ++ rw.filterMap (fun i => L[i]?)
def restL (keep : List Nat) (k : Nat) (L : List Chunk) : List Chunk := keep.filterMap (fun i => L[i]?) ++ L.drop k
def okTake (ro rw keep : List Nat) (k : Nat) (L : List Chunk) : Bool := ro.all (fun i => match L[i]? with | some c => c.ro | none => false) && okIx (rw ++ keep) k && Nat.ble k L.length
theorem cv_take (ro rw keep : List Nat) (k : Nat) (h : okTake ro rw keep k L = true) : Cv L (takeL ro rw L ++ restL keep k L) := fun Z w hw => by
  unfold okTake at h
  simp only [Bool.and_eq_true, List.all_eq_true] at h
  obtain ⟨⟨h1, h2⟩, h3⟩ := h
  obtain ⟨T, S, hT⟩ := hw
  have hro := hT.ros.app
  have hsel := cv_sel (rw ++ keep) k h2 h3
  have hl' : k ≤ L.length := Nat.le_of_ble_eq_true h3
  obtain ⟨T', h4⟩ := hT.sel (rw ++ keep) k h2 (by simp; omega)
  have e : selL (rw ++ keep) k (L ++ Z) = (rw.filterMap (fun i => L[i]?) ++ restL keep k L) ++ Z := by
    have e1 : ∀ ix : List Nat, (∀ i ∈ ix, i < L.length) → ix.filterMap (fun i => (L ++ Z)[i]?) = ix.filterMap (fun i => L[i]?) := by
      intro ix
      induction ix with
      | nil => intro _; rfl
      | cons i r ih => intro hi; have := ih fun j hj => hi j (by simp [hj]); simp only [List.filterMap_cons, List.getElem?_append_left (hi i (by simp)), this]
    unfold okIx at h2
    simp only [Bool.and_eq_true, List.all_eq_true] at h2
    have h5 : ∀ i ∈ rw ++ keep, i < L.length := fun i hi => by have h6 : i + 1 ≤ k := Nat.le_of_ble_eq_true (h2.1 i hi); omega
    unfold selL restL
    rw [List.drop_append_of_le_length hl', e1 _ h5, List.filterMap_append]
    simp only [List.append_assoc]
  rw [e] at h4
  obtain ⟨T'', h5⟩ := SepL.facts (ro.filterMap (fun i => L[i]?)) h4 (fun c hc => by
    obtain ⟨i, hi, hic⟩ := List.mem_filterMap.1 hc
    have := h1 i hi
    rw [hic] at this
    exact hro i c hic this)
  refine ⟨T'', S, ?_⟩
  unfold takeL
  simpa only [List.append_assoc] using h5
/-- a call of a Go function -/
theorem op_call {f : FuncId} {xs : List Operand} {ats : Array TypeId} {vs : List Value} {pre rest : List Chunk} {R : Value → List Chunk → Prop} (hc : Okc P f vs pre R) (hf : Callable P f) (hv : evs s xs = some vs) (hL : Cv L (pre ++ rest)) : OpX P s L ⟨d, .call ⟨.value (.func f), xs.toArray, ats⟩, ty, pos, af, gd⟩ fun u L' => ∃ post, R u post ∧ L' = post ++ rest := fun ρ hρ Z w hw => by
  refine .inr (.inr (.inl ⟨f, vs.toArray, run_call_fn hf (evs_map hρ hv) (hρ _ _ rfl), ?_⟩))
  have h1 : Sp (rest ++ Z) pre w := by have := hL Z w hw; unfold Sp at *; simpa only [List.append_assoc] using this
  refine (hc _ w h1).mono ?_
  rintro e w' ⟨v, post, rfl, h2, h3⟩
  exact ⟨v, post ++ rest, rfl, by unfold Sp at *; simpa only [List.append_assoc] using h2, post, h3, rfl⟩
/-- a chunk that leans on nothing -/
def Free (c : Chunk) : Prop := ∀ T S S' w, c.ok T S w → c.ok T S' w
theorem free_own {α : Type} {sz : Nat} {en : α → List Value} {h1 : ∀ x, (en x).length = sz} {h2 : ∀ x, (en x).all (·.oneCell') = true} {e : TypeId} {v : Value} {xs : List α} : Free (ownC (Rep.flat sz en h1 h2) e v xs) := fun T S S' w ⟨vss, g1, g2⟩ => ⟨vss, g1.imp fun _ _ h => h, g2⟩
/-- what may be read now: whatever lies below the heap's end -/
def Lent (L : List Chunk) (c : Chunk) : Prop := ∀ T S w, SepT L T S w → c.ok (fun _ => False) (fun q => q < w.heap.size) w
theorem lent_ro {i : Nat} {c : Chunk} (hi : L[i]? = some c) (hc : c.ro = true) : Lent L c := fun T S w h => c.mono (fun _ hq => h.lts hq) (c.dup hc (h.ok hi))
theorem lent_own {α : Type} {R : Rep α} {e : TypeId} {v : Value} {xs : List α} {i : Nat} (hi : L[i]? = some (ownC R e v xs)) : Lent L (slC R v xs) := fun T S w h => by
  obtain ⟨vss, h1, h2⟩ := h.ok hi
  rcases h2 with ⟨h2, -⟩ | ⟨h0, A, rfl⟩
  · rcases h2.2 with ⟨rfl, h0⟩ | ⟨g, cap, cur, rfl, g1, g2, g3, g4, g5, g6⟩
    · exact ⟨none, 0, by rw [h0], by omega, by omega, fun h => absurd h (by omega)⟩
    · exact ⟨_, cap, rfl, g3, by unfold maxLen at g4; omega, fun _ => ⟨g, 0, vss, rfl, Blk.lt (t := e) (cs := cur) g2, Blk.lt (t := e) (cs := cur) g2, h1.imp fun _ _ => R.mono fun _ hq => h.lts hq, own_cells (cap := cap) g2 g6⟩⟩
  · exact ⟨A, 0, by rw [h0], by omega, by omega, fun h => absurd h (by omega)⟩
theorem lent_nil {α : Type} {R : Rep α} : Lent L (slC R (.slice none 0 0) ([] : List α)) := fun T S w h => slR_nil R _ w
theorem okc_lend {f : FuncId} {vs : List Value} {pre : List Chunk} {R : Value → List Chunk → Prop} (hc : Okc P f vs pre R) (hp : ∀ c ∈ pre, Lent L c) (hfr : ∀ v post, R v post → ∀ c ∈ post, Free c) : ∀ Z w, Sp Z L w → Calls P f vs.toArray w fun e w' => ∃ v post, e = .returned v ∧ Sp Z (post ++ L) w' ∧ R v post := fun Z w hw => by
  obtain ⟨T, S, hT⟩ := hw
  have hTL : SepT L T S w := ⟨fun hi => hT.ok (fr_get hi), hT.apart, hT.ro, hT.lt, hT.lts⟩
  have h1 : Sp [oldC w] pre w := by
    refine ⟨fun _ _ => False, fun q => q < w.heap.size, ?_, fun _ h => h.elim, fun h => h.elim, fun h => h.elim, fun h => h⟩
    intro i c hi
    rcases Nat.lt_or_ge i pre.length with hlt | hge
    · rw [List.getElem?_append_left hlt] at hi
      exact hp c (List.mem_of_getElem? hi) T S w hTL
    · rw [List.getElem?_append_right hge] at hi
      have hc : c = oldC w := by
        cases hk : i - pre.length with
        | zero => rw [hk] at hi; simpa using hi.symm
        | succ k => rw [hk] at hi; simp at hi
      subst hc
      exact ⟨Ext.refl w, fun _ h => h⟩
  refine (hc _ w h1).mono ?_
  rintro e w' ⟨v, post, rfl, ⟨T', S', h2⟩, h3⟩
  have hold : (oldC w).ok (T' post.length) S' w' := h2.ok (by simp)
  obtain ⟨hx, hS⟩ := hold
  refine ⟨v, post, rfl, ⟨fun i q => if i < post.length then T' i q else T (i - post.length) q, S, ?_, ?_, ?_, ?_, fun hq => Nat.lt_of_lt_of_le (hT.lts hq) hx.size⟩, h3⟩
  · intro i c hi
    rw [List.append_assoc] at hi
    rcases Nat.lt_or_ge i post.length with hlt | hge
    · rw [List.getElem?_append_left hlt] at hi
      have h4 := h2.ok (show (post ++ [oldC w])[i]? = some c by rw [List.getElem?_append_left hlt]; exact hi)
      simp only [hlt, if_true]
      exact hfr v post h3 c (List.mem_of_getElem? hi) _ _ _ _ h4
    · rw [List.getElem?_append_right hge] at hi
      simp only [show ¬ i < post.length by omega, if_false]
      exact c.loc (Agr.of_ext hx) (hT.ok hi)
  · intro i j q hij h4 h5
    by_cases e1 : i < post.length <;> by_cases e2 : j < post.length
    · simp only [e1, e2, if_true] at h4 h5; exact h2.apart hij h4 h5
    · simp only [e1, e2, if_true, if_false] at h4 h5; exact h2.ro h4 (hS q (hT.lt h5))
    · simp only [e1, e2, if_true, if_false] at h4 h5; exact h2.ro h5 (hS q (hT.lt h4))
    · simp only [e1, e2, if_false] at h4 h5; exact hT.apart (by omega) h4 h5
  · intro i q h4 h5
    by_cases e1 : i < post.length
    · simp only [e1, if_true] at h4; exact h2.ro h4 (hS q (hT.lts h5))
    · simp only [e1, if_false] at h4; exact hT.ro h4 h5
  · intro i q h4
    by_cases e1 : i < post.length
    · simp only [e1, if_true] at h4; exact h2.lt h4
    · simp only [e1, if_false] at h4; exact Nat.lt_of_lt_of_le (hT.lt h4) hx.size
/-- a call that reads what is lent to it, and yields what leans on nothing -/
theorem op_callR {f : FuncId} {xs : List Operand} {ats : Array TypeId} {vs : List Value} {pre : List Chunk} {R : Value → List Chunk → Prop} (hc : Okc P f vs pre R) (hf : Callable P f) (hv : evs s xs = some vs) (hp : ∀ c ∈ pre, Lent L c) (hfr : ∀ v post, R v post → ∀ c ∈ post, Free c) : OpX P s L ⟨d, .call ⟨.value (.func f), xs.toArray, ats⟩, ty, pos, af, gd⟩ fun u L' => ∃ post, R u post ∧ L' = post ++ L := fun ρ hρ Z w hw => by
  refine .inr (.inr (.inl ⟨f, vs.toArray, run_call_fn hf (evs_map hρ hv) (hρ _ _ rfl), ?_⟩))
  refine (okc_lend hc hp hfr Z w hw).mono ?_
  rintro e w' ⟨v, post, rfl, h2, h3⟩
  exact ⟨v, post ++ L, rfl, h2, post, h3, rfl⟩
theorem mem_nil {p : Chunk → Prop} : ∀ c ∈ ([] : List Chunk), p c := fun _ h => by cases h
theorem mem_cons {p : Chunk → Prop} {c : Chunk} {l : List Chunk} (h1 : p c) (h2 : ∀ c ∈ l, p c) : ∀ d ∈ c :: l, p d := fun d h => by
  rcases List.mem_cons.1 h with rfl | h
  · exact h1
  · exact h2 d h
end
section
variable {X : Cx} {fn : Func} {R : Value → List Chunk → Prop} {s : Env} {L L2 : List Chunk}
theorem endG0 (hr : fn.results = #[]) (hc : Cv L L2) (h : R (.tuple #[]) L2) : EndG X fn R .ret s L := fun a ha => ⟨_, L2, fun _ _ _ => by unfold results; rw [hr]; simp, hc, h⟩
theorem endG0n (hr : fn.results = #[]) (hc : Cv L L2) (h : R (.tuple #[]) L2) : EndG X fn R .normal s L := fun a ha => ⟨_, L2, fun _ _ _ => by unfold results; rw [hr]; simp, hc, h⟩
theorem endG1 {t : Nat} {v : Value} (hr : fn.results = #[.tmp t]) (hl : look s t = some v) (hc : Cv L L2) (h : R v L2) : EndG X fn R .ret s L := fun a ha => ⟨v, L2, fun _ _ _ => by unfold results; rw [hr]; simpa using ha.at_ t v hl, hc, h⟩
theorem endG2 {t u : Nat} {v x : Value} (hr : fn.results = #[.tmp t, .tmp u]) (hl : look s t = some v) (hm : look s u = some x) (hc : Cv L L2) (h : R (.tuple #[v, x]) L2) : EndG X fn R .ret s L := fun a ha => ⟨_, L2, fun _ _ _ => by unfold results; rw [hr]; simpa using And.intro (ha.at_ t v hl) (ha.at_ u x hm), hc, h⟩
theorem endG3 {t u z : Nat} {v x y : Value} (hr : fn.results = #[.tmp t, .tmp u, .tmp z]) (hl : look s t = some v) (hm : look s u = some x) (hz : look s z = some y) (hc : Cv L L2) (h : R (.tuple #[v, x, y]) L2) : EndG X fn R .ret s L := fun a ha => ⟨_, L2, fun _ _ _ => by unfold results; rw [hr]; simpa using And.intro (ha.at_ t v hl) (And.intro (ha.at_ u x hm) (ha.at_ z y hz)), hc, h⟩
end
/-! pure side -/
/-- element i -/
def getE {α : Type} (xs : List α) (i : Int) : Option α := if i < 0 then none else xs[i.toNat]?
theorem getE_elim {α : Type} {xs : List α} {i : Int} {x : α} (h : getE xs i = some x) : 0 ≤ i ∧ i < xs.length ∧ xs[i.toNat]? = some x := by
  unfold getE at h
  split at h
  · cases h
  · have := (List.getElem?_eq_some_iff.1 h).1
    exact ⟨by omega, by omega, h⟩
/-- go on only if b -/
def req {ρ : Type} (b : Prop) [Decidable b] (m : Option ρ) : Option ρ := if b then m else none
theorem req_elim {ρ : Type} {b : Prop} [Decidable b] {m : Option ρ} {r : ρ} (h : req b m = some r) : b ∧ m = some r := by
  unfold req at h
  split at h
  · exact ⟨‹_›, h⟩
  · cases h
/-- the number fits into 64 bits -/
abbrev in64 (z : Int) : Prop := -9223372036854775808 ≤ z ∧ z ≤ 9223372036854775807
abbrev fitsL (n : Nat) : Prop := n ≤ 1099511627776
theorem bind_elim {α β : Type} {m : Option α} {f : α → Option β} {r : β} (h : m.bind f = some r) : ∃ x, m = some x ∧ f x = some r := Option.bind_eq_some_iff.1 h
theorem cond_t {ρ : Type} {b : Bool} {x y : Option ρ} {r : Option ρ} (hb : b = true) (h : (bif b then x else y) = r) : x = r := by rw [hb] at h; exact h
theorem cond_f {ρ : Type} {b : Bool} {x y : Option ρ} {r : Option ρ} (hb : b = false) (h : (bif b then x else y) = r) : y = r := by rw [hb] at h; exact h
end Go.Proofs.Ytmbaennilhdieaa
