/- Chunks: what is known of memory, as a list of parts that do not overlap. Over any program. -/
import Derived.Test.YtmbaennilhdieaaEng7
namespace Go.Proofs.Ytmbaennilhdieaa
open Go.RowKit

/-- w' keeps the blocks of X -/
structure Agr (X : Nat → Prop) (w w' : World) : Prop where
  os : w'.os = w.os
  tape : w'.tape = w.tape
  output : w'.output = w.output
  size : w.heap.size ≤ w'.heap.size
  block : ∀ q, q < w.heap.size → X q → w'.heap[q]? = w.heap[q]?
theorem Agr.refl (X : Nat → Prop) (w : World) : Agr X w w := ⟨rfl, rfl, rfl, Nat.le_refl _, fun _ _ _ => rfl⟩
theorem Agr.mono {X Y : Nat → Prop} {w w' : World} (h : Agr X w w') (hx : ∀ q, Y q → X q) : Agr Y w w' := ⟨h.os, h.tape, h.output, h.size, fun q hq hy => h.block q hq (hx q hy)⟩
theorem Agr.of_ext {X : Nat → Prop} {a b : World} (h : Ext a b) : Agr X a b := ⟨h.os, h.tape, h.output, h.size, fun q hq _ => h.block q hq⟩
theorem Agr.of_fr {S X : Nat → Prop} {a b : World} (h : Fr S a b) (hx : ∀ q, X q → ¬ S q) : Agr X a b := ⟨h.os, h.tape, h.output, h.size, fun q hq hxq => h.block q hq (hx q hxq)⟩
theorem Agr.cell {X : Nat → Prop} {w w' : World} (k : Agr X w w') {b : Nat} (hb : X b) (hlt : b < w.heap.size) (o : Nat) : w'.cell? ⟨b, o, none⟩ = w.cell? ⟨b, o, none⟩ := World.cell?_of_block (k.block b hlt hb)
theorem CellsAt.agr {X : Nat → Prop} {w w' : World} {b o : Nat} {l : List Value} (h : CellsAt w b o l) (k : Agr X w w') (hb : X b) (hlt : b < w.heap.size) : CellsAt w' b o l := fun j u hj => (k.cell hb hlt _).trans (h j u hj)
theorem Blk.agr {X : Nat → Prop} {w w' : World} {b : Nat} {t : TypeId} {cs : Array Value} (h : Blk w b t cs) (k : Agr X w w') (hb : X b) : Blk w' b t cs := (k.block b h.lt hb).trans h

/-- a part of what is known: it owns the blocks T and leans on the blocks S, which nobody writes -/
structure Chunk where
  ok : (Nat → Prop) → (Nat → Prop) → World → Prop
  loc : ∀ {T S : Nat → Prop} {w w' : World}, Agr (fun q => T q ∨ S q) w w' → ok T S w → ok T S w'
  mono : ∀ {T S S' : Nat → Prop} {w : World}, (∀ q, S q → S' q) → ok T S w → ok T S' w
  ro : Bool
  dup : ro = true → ∀ {T S : Nat → Prop} {w : World}, ok T S w → ok (fun _ => False) S w

structure SepT (L : List Chunk) (T : Nat → Nat → Prop) (S : Nat → Prop) (w : World) : Prop where
  ok : ∀ {i : Nat} {c : Chunk}, L[i]? = some c → c.ok (T i) S w
  apart : ∀ {i j q}, i ≠ j → T i q → T j q → False
  ro : ∀ {i q}, T i q → S q → False
  lt : ∀ {i q}, T i q → q < w.heap.size
  lts : ∀ {q}, S q → q < w.heap.size
def SepL (L : List Chunk) (w : World) : Prop := ∃ T S, SepT L T S w

theorem SepL.get {L : List Chunk} {w : World} (h : SepL L w) {i : Nat} {c : Chunk} (hi : L[i]? = some c) : ∃ T S, c.ok T S w := by
  obtain ⟨T, S, h⟩ := h
  exact ⟨_, _, h.ok hi⟩
/-- nothing old has changed -/
theorem SepL.same {L : List Chunk} {w w' : World} (h : SepL L w) (hx : Agr (fun _ => True) w w') : SepL L w' := by
  obtain ⟨T, S, h⟩ := h
  exact ⟨T, S, fun hi => Chunk.loc _ (hx.mono fun _ _ => trivial) (h.ok hi), h.apart, h.ro, fun h1 => Nat.lt_of_lt_of_le (h.lt h1) hx.size, fun h1 => Nat.lt_of_lt_of_le (h.lts h1) hx.size⟩
/-- a new chunk in new memory -/
theorem SepL.new {L : List Chunk} {w w' : World} (h : SepL L w) (hx : Agr (fun _ => True) w w') {c : Chunk} (hc : ∀ T0 S, SepT L T0 S w → ∃ T, (∀ q, T q → w.heap.size ≤ q ∧ q < w'.heap.size) ∧ c.ok T S w') : SepL (c :: L) w' := by
  obtain ⟨T, S, h⟩ := h
  obtain ⟨Tc, h1, h2⟩ := hc T S h
  refine ⟨fun i => match i with | 0 => Tc | i + 1 => T i, S, ?_, ?_, ?_, ?_, fun h3 => Nat.lt_of_lt_of_le (h.lts h3) hx.size⟩
  · intro i d hi
    cases i with
    | zero => simp only [List.getElem?_cons_zero, Option.some.injEq] at hi; subst hi; exact h2
    | succ i => simp only [List.getElem?_cons_succ] at hi; exact d.loc (hx.mono fun _ _ => trivial) (h.ok hi)
  · intro i j q hij h3 h4
    cases i with
    | zero => cases j with
      | zero => exact hij rfl
      | succ j => have := (h1 q h3).1; have := h.lt h4; omega
    | succ i => cases j with
      | zero => have := (h1 q h4).1; have := h.lt h3; omega
      | succ j => exact h.apart (by omega) h3 h4
  · intro i q h3 h4
    cases i with
    | zero => have := (h1 q h3).1; have := h.lts h4; omega
    | succ i => exact h.ro h3 h4
  · intro i q h3
    cases i with
    | zero => exact (h1 q h3).2
    | succ i => exact Nat.lt_of_lt_of_le (h.lt h3) hx.size
/-- a further fact that leans on what nobody writes -/
theorem SepL.fact {L : List Chunk} {w : World} (h : SepL L w) {i : Nat} {c d : Chunk} (hi : L[i]? = some c) (hd : ∀ T S, c.ok T S w → d.ok (fun _ => False) S w) : SepL (d :: L) w := by
  obtain ⟨T, S, h⟩ := h
  refine ⟨fun i => match i with | 0 => fun _ => False | i + 1 => T i, S, ?_, ?_, ?_, ?_, h.lts⟩
  · intro j e hj
    cases j with
    | zero => simp only [List.getElem?_cons_zero, Option.some.injEq] at hj; subst hj; exact hd _ _ (h.ok hi)
    | succ j => simp only [List.getElem?_cons_succ] at hj; exact h.ok hj
  · intro i j q hij h3 h4
    cases i with
    | zero => exact h3
    | succ i => cases j with
      | zero => exact h4
      | succ j => exact h.apart (by omega) h3 h4
  · intro i q h3 h4
    cases i with
    | zero => exact h3
    | succ i => exact h.ro h3 h4
  · intro i q h3
    cases i with
    | zero => exact h3.elim
    | succ i => exact h.lt h3
theorem SepL.dup {L : List Chunk} {w : World} (h : SepL L w) {i : Nat} {c : Chunk} (hi : L[i]? = some c) (hc : c.ro = true) : SepL (c :: L) w := h.fact hi fun _ _ h1 => c.dup hc h1
theorem SepL.fact0 {L : List Chunk} {w : World} (h : SepL L w) {d : Chunk} (hd : ∀ S, d.ok (fun _ => False) S w) : SepL (d :: L) w :=
  h.new (Agr.refl _ _) fun _ S _ => ⟨fun _ => False, fun _ h => h.elim, hd S⟩
/-- chunk i changes; it may take new memory -/
theorem SepT.upd {L : List Chunk} {w w' : World} {T : Nat → Nat → Prop} {S : Nat → Prop} (h : SepT L T S w) {i : Nat} {c d : Chunk} (hi : L[i]? = some c) (hx : Agr (fun q => ¬ T i q) w w') {T' : Nat → Prop} (h1 : ∀ q, T' q → T i q ∨ w.heap.size ≤ q) (h2 : ∀ q, T' q → q < w'.heap.size) (h3 : d.ok T' S w') : SepL (L.set i d) w' := by
  have hil : i < L.length := (List.getElem?_eq_some_iff.1 hi).1
  refine ⟨fun j => if j = i then T' else T j, S, ?_, ?_, ?_, ?_, fun h4 => Nat.lt_of_lt_of_le (h.lts h4) hx.size⟩
  · intro j e hj
    by_cases e1 : j = i
    · subst e1
      rw [List.getElem?_set_self hil] at hj
      cases hj
      simpa using h3
    · rw [List.getElem?_set_ne (by omega)] at hj
      simp only [e1, if_false]
      refine e.loc (hx.mono ?_) (h.ok hj)
      rintro q (h4 | h4)
      · exact fun h5 => h.apart e1 h4 h5
      · exact fun h5 => h.ro h5 h4
  · intro j k q hjk h4 h5
    by_cases e1 : j = i <;> by_cases e2 : k = i
    · omega
    · simp only [e1, e2, if_true, if_false] at h4 h5
      rcases h1 q h4 with h6 | h6
      · exact h.apart (fun e => e2 e.symm) h6 h5
      · have := h.lt h5; omega
    · simp only [e1, e2, if_true, if_false] at h4 h5
      rcases h1 q h5 with h6 | h6
      · exact h.apart e1 h4 h6
      · have := h.lt h4; omega
    · simp only [e1, e2, if_false] at h4 h5
      exact h.apart hjk h4 h5
  · intro j q h4 h5
    by_cases e1 : j = i
    · simp only [e1, if_true] at h4
      rcases h1 q h4 with h6 | h6
      · exact h.ro h6 h5
      · have := h.lts h5; omega
    · simp only [e1, if_false] at h4
      exact h.ro h4 h5
  · intro j q h4
    by_cases e1 : j = i
    · simp only [e1, if_true] at h4; exact h2 q h4
    · simp only [e1, if_false] at h4; exact Nat.lt_of_lt_of_le (h.lt h4) hx.size
theorem SepL.upd {L : List Chunk} {w w' : World} (h : SepL L w) {i : Nat} {c d : Chunk} (hi : L[i]? = some c)
    (hd : ∀ T S, c.ok T S w → (∀ q, T q → q < w.heap.size) → (∀ q, S q → q < w.heap.size) → (∀ q, T q → S q → False) → Agr (fun q => ¬ T q) w w' ∧ ∃ T', (∀ q, T' q → T q ∨ w.heap.size ≤ q) ∧ (∀ q, T' q → q < w'.heap.size) ∧ d.ok T' S w') : SepL (L.set i d) w' := by
  obtain ⟨T, S, h⟩ := h
  obtain ⟨hx, T', h1, h2, h3⟩ := hd _ _ (h.ok hi) (fun _ => h.lt) (fun _ => h.lts) (fun _ => h.ro)
  exact h.upd hi hx h1 h2 h3
/-- what is owned is given away: from now on nobody writes it -/
theorem SepL.frz {L : List Chunk} {w : World} (h : SepL L w) {i : Nat} {c d : Chunk} (hi : L[i]? = some c) (hd : ∀ T S, c.ok T S w → d.ok (fun _ => False) (fun q => S q ∨ T q) w) : SepL (L.set i d) w := by
  obtain ⟨T, S, h⟩ := h
  have hil : i < L.length := (List.getElem?_eq_some_iff.1 hi).1
  refine ⟨fun j => if j = i then fun _ => False else T j, fun q => S q ∨ T i q, ?_, ?_, ?_, ?_, ?_⟩
  · intro j e hj
    by_cases e1 : j = i
    · subst e1
      rw [List.getElem?_set_self hil] at hj
      cases hj
      simpa using hd _ _ (h.ok hi)
    · rw [List.getElem?_set_ne (by omega)] at hj
      simp only [e1, if_false]
      exact e.mono (fun _ => .inl) (h.ok hj)
  · intro j k q hjk h4 h5
    by_cases e1 : j = i
    · simp only [e1, if_true] at h4
    · by_cases e2 : k = i
      · simp only [e2, if_true] at h5
      · simp only [e1, e2, if_false] at h4 h5
        exact h.apart hjk h4 h5
  · intro j q h4 h5
    by_cases e1 : j = i
    · simp only [e1, if_true] at h4
    · simp only [e1, if_false] at h4
      rcases h5 with h5 | h5
      · exact h.ro h4 h5
      · exact h.apart e1 h4 h5
  · intro j q h4
    by_cases e1 : j = i
    · simp only [e1, if_true] at h4
    · simp only [e1, if_false] at h4; exact h.lt h4
  · rintro q (h4 | h4)
    · exact h.lts h4
    · exact h.lt h4
/-- one chunk turns into another that says less -/
theorem SepL.weak {L : List Chunk} {w : World} (h : SepL L w) {i : Nat} {c d : Chunk} (hi : L[i]? = some c) (hd : ∀ T S, c.ok T S w → d.ok T S w) : SepL (L.set i d) w :=
  h.upd hi fun T S h1 h2 _ _ => ⟨Agr.refl _ _, T, fun _ => .inl, h2, hd _ _ h1⟩
/-- which chunks are kept, in which order; behind them the rest from k on -/
def selL (ix : List Nat) (k : Nat) (L : List Chunk) : List Chunk := ix.filterMap (fun i => L[i]?) ++ L.drop k
def okIx (ix : List Nat) (k : Nat) : Bool := ix.all (fun i => Nat.blt i k) && decide ix.Nodup
theorem SepT.pick {L L' : List Chunk} {w : World} {T : Nat → Nat → Prop} {S : Nat → Prop} (h : SepT L T S w) (f : Nat → Nat) (hf : ∀ (j : Nat) (c : Chunk), L'[j]? = some c → L[f j]? = some c) (hi : ∀ i j, i < L'.length → j < L'.length → f i = f j → i = j) : SepT L' (fun j q => j < L'.length ∧ T (f j) q) S w := by
  refine ⟨fun hj => ?_, ?_, fun h1 h2 => h.ro h1.2 h2, fun h1 => h.lt h1.2, h.lts⟩
  · rename_i j c
    have hlt := (List.getElem?_eq_some_iff.1 hj).1
    have : (fun q => j < L'.length ∧ T (f j) q) = T (f j) := by funext q; simp [hlt]
    rw [this]
    exact h.ok (hf _ _ hj)
  · rintro i j q hij ⟨h1, h2⟩ ⟨h3, h4⟩
    exact h.apart (fun e => hij (hi i j h1 h3 e)) h2 h4
theorem SepL.pick {L L' : List Chunk} {w : World} (h : SepL L w) (f : Nat → Nat) (hf : ∀ (j : Nat) (c : Chunk), L'[j]? = some c → L[f j]? = some c) (hi : ∀ i j, i < L'.length → j < L'.length → f i = f j → i = j) : SepL L' w := by
  obtain ⟨T, S, h⟩ := h
  exact ⟨_, S, h.pick f hf hi⟩
theorem filterMap_lt {L : List Chunk} : ∀ (ix : List Nat), (∀ i ∈ ix, i < L.length) → (ix.filterMap (fun i => L[i]?)).length = ix.length ∧ ∀ (j : Nat) (c : Chunk), (ix.filterMap (fun i => L[i]?))[j]? = some c → ∃ i : Nat, ix[j]? = some i ∧ L[i]? = some c
  | [], _ => ⟨rfl, fun j c h => by simp at h⟩
  | i :: r, h => by
    have hi : i < L.length := h i (by simp)
    obtain ⟨h1, h2⟩ := filterMap_lt r fun k hk => h k (by simp [hk])
    rw [List.filterMap_cons_some (b := L[i]) (by simp [hi])]
    refine ⟨by simp [h1], fun j c hj => ?_⟩
    cases j with
    | zero => simp only [List.getElem?_cons_zero, Option.some.injEq] at hj; exact ⟨i, rfl, by simp [hi, hj]⟩
    | succ j => simp only [List.getElem?_cons_succ] at hj; obtain ⟨k, h3, h4⟩ := h2 j c hj; exact ⟨k, by simpa using h3, h4⟩
theorem SepT.sel {L : List Chunk} {w : World} {T : Nat → Nat → Prop} {S : Nat → Prop} (h : SepT L T S w) (ix : List Nat) (k : Nat) (hk : okIx ix k = true) (hl : Nat.ble k L.length = true) : ∃ T', SepT (selL ix k L) T' S w := by
  unfold okIx at hk
  simp only [Bool.and_eq_true, List.all_eq_true, decide_eq_true_eq] at hk
  obtain ⟨h1, h2⟩ := hk
  have h1' : ∀ i ∈ ix, i < k := fun i hi => by have h3 : i + 1 ≤ k := Nat.le_of_ble_eq_true (h1 i hi); omega
  have hl' := Nat.le_of_ble_eq_true hl
  obtain ⟨h3, h4⟩ := filterMap_lt (L := L) ix fun i hi => by have := h1' i hi; omega
  refine ⟨_, h.pick (fun j => if j < ix.length then ix.getD j 0 else j - ix.length + k) ?_ ?_⟩
  · intro j c hj
    unfold selL at hj
    by_cases hlt : j < ix.length
    · rw [List.getElem?_append_left (by omega)] at hj
      obtain ⟨i, h5, h6⟩ := h4 j c hj
      simp [hlt]
      simp [hlt] at h5
      rw [h5]; exact h6
    · rw [List.getElem?_append_right (by omega), List.getElem?_drop, h3] at hj
      simp only [hlt, if_false]
      rw [Nat.add_comm]; exact hj
  · intro i j _ _ e
    by_cases h5 : i < ix.length <;> by_cases h6 : j < ix.length
    · simp only [h5, h6, if_true] at e
      simp [h5, h6] at e
      have h7 := List.pairwise_iff_getElem.1 h2
      rcases Nat.lt_trichotomy i j with h8 | h8 | h8
      · exact absurd e (h7 i j h5 h6 h8)
      · exact h8
      · exact absurd e.symm (h7 j i h6 h5 h8)
    · simp only [h5, h6, if_true, if_false] at e
      have : ix.getD i 0 < k := by simp [h5]; exact h1' _ (List.getElem_mem h5)
      omega
    · simp only [h5, h6, if_true, if_false] at e
      have : ix.getD j 0 < k := by simp [h6]; exact h1' _ (List.getElem_mem h6)
      omega
    · simp only [h5, h6, if_false] at e
      omega
theorem SepL.sel {L : List Chunk} {w : World} (h : SepL L w) (ix : List Nat) (k : Nat) (hk : okIx ix k = true) (hl : Nat.ble k L.length = true) : SepL (selL ix k L) w := by
  obtain ⟨T, S, h⟩ := h
  obtain ⟨T', h'⟩ := h.sel ix k hk hl
  exact ⟨T', S, h'⟩
end Go.Proofs.Ytmbaennilhdieaa
