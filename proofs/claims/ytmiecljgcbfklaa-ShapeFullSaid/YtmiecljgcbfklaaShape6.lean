/- Shapes: transitions, plain; what the table's memory may do. -/
import Derived.Test.YtmiecljgcbfklaaShape5
namespace Go.Proofs.Ytmiecljgcbfklaa
open Go.RowKit

/-- follow the transitions that are there -/
def foll (T : List ShD) : Nat → List ShD → Nat × List ShD
  | at_, [] => (at_, [])
  | at_, x :: r => match lk (prs T) ((at_ : Int), x.key, x.attrs) with
    | some j => foll T j r
    | none => (at_, x :: r)
def lenAt (T : List ShD) (i : Nat) : Int := match T[i]? with | some x => x.len | none => 0
/-- make those that are not -/
def grow (T : List ShD) : Nat → List ShD → List ShD × Nat
  | at_, [] => (T, at_)
  | at_, x :: r => grow (T ++ [⟨at_, x.key, x.attrs, lenAt T at_ + 1⟩]) T.length r
def layT (T : List ShD) (at_ : Nat) (l : List ShD) : List ShD × Nat × Int :=
  if 1073741824 < (foll T at_ l).2.length + T.length then (T, 0, 5) else ((grow T (foll T at_ l).1 (foll T at_ l).2).1, (grow T (foll T at_ l).1 (foll T at_ l).2).2, 0)
theorem prs_get {T : List ShD} (i : Nat) : (prs T)[i]? = (T[i + 1]?).map fun x => ((x.up, x.key, x.attrs), i + 1) := by
  unfold prs
  rw [List.getElem?_map, List.getElem?_zipIdx, List.getElem?_drop, Nat.add_comm 1 i]
  cases T[i + 1]? <;> simp
theorem lk_mem {α β : Type} [DecidableEq α] {L : List (α × β)} {a : α} {b : β} (h : lk L a = some b) : (a, b) ∈ L := by
  unfold lk at h
  rw [Option.map_eq_some_iff] at h
  obtain ⟨p, h1, rfl⟩ := h
  have h2 := List.mem_of_find?_eq_some h1
  have h3 := List.find?_some h1
  simp only [decide_eq_true_eq] at h3
  rw [← h3]
  exact h2
/-- what a transition leads to -/
theorem lk_prs {T : List ShD} {a : Stp} {j : Nat} (h : lk (prs T) a = some j) : ∃ x, T[j]? = some x ∧ 0 < j ∧ (x.up, x.key, x.attrs) = a := by
  obtain ⟨i, hi⟩ := List.getElem?_of_mem (lk_mem h)
  rw [prs_get] at hi
  rw [Option.map_eq_some_iff] at hi
  obtain ⟨x, h1, h2⟩ := hi
  injection h2 with h3 h4
  subst h4
  exact ⟨x, h1, by omega, h3⟩
theorem prs_snoc {T : List ShD} (h : 0 < T.length) (x : ShD) : prs (T ++ [x]) = prs T ++ [((x.up, x.key, x.attrs), T.length)] := by
  apply List.ext_getElem?
  intro i
  have hl : (prs T).length = T.length - 1 := by simp [prs]
  rw [prs_get]
  rcases Nat.lt_trichotomy i (prs T).length with h1 | h1 | h1
  · rw [List.getElem?_append_left (by omega), List.getElem?_append_left h1, prs_get]
  · rw [List.getElem?_append_right (by omega), List.getElem?_append_right (by omega)]
    have e : i + 1 - T.length = 0 := by omega
    have e2 : i - (prs T).length = 0 := by omega
    rw [e, e2]
    simp
    omega
  · rw [List.getElem?_append_right (by omega), List.getElem?_append_right (by omega), List.getElem?_eq_none (by simp; omega), List.getElem?_eq_none (by simp; omega)]
    rfl
theorem upL_new {α β : Type} [DecidableEq α] {L : List (α × β)} {a : α} {b : β} (h : lk L a = none) : upL L a b = L ++ [(a, b)] := by
  unfold upL
  have : fp a L 0 = none := by
    have := fp_lk a L 0
    rw [h] at this
    simpa using this
  rw [this]
theorem WF.snoc {T : List ShD} (h : WF T) (u : Nat) (k : V3) (a : Int) (hu : u < T.length) (hs : T.length + 1 ≤ 1073741824) : WF (T ++ [⟨(u : Int), k, a, lenAt T u + 1⟩]) := by
  refine ⟨by simp; omega, ?_, fun i x hx hi => ?_⟩
  · rw [List.getElem?_append_left (by omega)]; exact h.head
  · rcases Nat.lt_or_ge i T.length with h1 | h1
    · rw [List.getElem?_append_left h1] at hx
      obtain ⟨v, y, g1, g2, g3, g4⟩ := h.up i x hx hi
      exact ⟨v, y, g1, g2, by rw [List.getElem?_append_left (by omega)]; exact g3, g4⟩
    · have hi' : i = T.length := by
        have := (List.getElem?_eq_some_iff.1 hx).1
        simp at this
        omega
      subst hi'
      rw [List.getElem?_append_right (Nat.le_refl _), Nat.sub_self] at hx
      simp only [List.getElem?_cons_zero, Option.some.injEq] at hx
      subst hx
      have hy : T[u]? = some T[u] := List.getElem?_eq_getElem hu
      refine ⟨u, T[u], rfl, hu, by rw [List.getElem?_append_left hu]; exact hy, ?_⟩
      simp [lenAt, hy]
theorem equal_step (x y : Stp) (w : World) : (Op.equal 63 (stepE x) (stepE y)).run Try.prog w = .ok (decide (x = y)) w := by
  obtain ⟨u, ⟨a, b, s⟩, c⟩ := x
  obtain ⟨u', ⟨a', b', s'⟩, c'⟩ := y
  show (Op.equalIn 10000 63 (.agg #[.int .i64 u, .int .i64 a, .int .i64 b, .string s, .int .i64 c]) (.agg #[.int .i64 u', .int .i64 a', .int .i64 b', .string s', .int .i64 c'])).run Try.prog w = _
  go_simp
  simp only [bytes_eq]
  by_cases h1 : a = a' <;> by_cases h2 : b = b' <;> by_cases h3 : s = s' <;> by_cases h4 : u = u' <;> by_cases h5 : c = c' <;> simp [h1, h2, h3, h4, h5]
theorem beq_bytes (s : ByteArray) : (s == s) = true := by
  obtain ⟨d⟩ := s
  show (d == d) = true
  simp
theorem keyOk_step : KeyOk Try.prog 63 stepE where
  und := ⟨_, Try.underlying63, fun a b => .inl rfl⟩
  eq := equal_step
  check := fun e a w => by
    obtain ⟨u, ⟨a, b, s⟩, c⟩ := a
    kernel_rfl
  bits := fun a => by
    obtain ⟨u, ⟨a, b, s⟩, c⟩ := a
    simp [stepE, stepV, Instr.sameBits]
    exact beq_bytes s
theorem SqA.tail {α : Type} {w : World} {t : TypeId} {sz : Nat} {en : α → List Value} {A : Option Addr} {x : α} {r : List α} (h : SqA w t sz en A (x :: r)) (cap : Nat) (hc : (x :: r).length ≤ cap) : SqA w t sz en (cutA A cap 1 sz) r := by
  have := h.cut 1 r.length cap hc
  simpa using this
theorem bl_cut {α : Type} {w : World} {t : TypeId} {sz : Nat} {en : α → List Value} {A : Option Addr} {xs : List α} (h : SqA w t sz en A xs) (h0 : 0 < xs.length) (cap l : Nat) : bl (cutA A cap l sz) = bl A := by
  unfold cutA
  split
  · rfl
  · rw [h.nn h0]; simp [bl, at_add']
theorem arr_get {w : World} {b : Nat} {cur : Array Value} {T : List ShD} (h : Blk w b 37 cur) (h6 : cur.toList.take (T.length * 6) = T.flatMap enS) {i : Nat} {x : ShD} (hi : T[i]? = some x) : CellsAt w b (0 + i * 6) (enS x) := by
  intro j u hu
  have hj : j < 6 := (List.getElem?_eq_some_iff.1 hu).1
  have hlt : i < T.length := (List.getElem?_eq_some_iff.1 hi).1
  have e1 := flatS_get enS_len T i x j u hi hu
  rw [← h6, List.getElem?_take, if_pos (by omega), Array.getElem?_toList] at e1
  rw [h.cells, show 0 + i * 6 + j = i * 6 + j by omega]
  exact e1
theorem foll_nil {T : List ShD} {a : Nat} : foll T a [] = (a, []) := rfl
theorem foll_none {T : List ShD} {a : Nat} {x : ShD} {r : List ShD} (h : lk (prs T) ((a : Int), x.key, x.attrs) = none) : foll T a (x :: r) = (a, x :: r) := by unfold foll; rw [h]
theorem foll_some {T : List ShD} {a j : Nat} {x : ShD} {r : List ShD} (h : lk (prs T) ((a : Int), x.key, x.attrs) = some j) : foll T a (x :: r) = foll T j r := by rw [foll, h]
/-- nothing leads from the newest shape -/
theorem lk_newest {T : List ShD} (h : WF T) (k : V3) (a : Int) (n : Nat) (hn : T.length = n + 1) : lk (prs T) ((n : Int), k, a) = none := by
  cases hf : lk (prs T) ((n : Int), k, a) with
  | none => rfl
  | some j =>
    obtain ⟨x, h1, h2, h3⟩ := lk_prs hf
    obtain ⟨u, y, g1, g2, g3, g4⟩ := h.up j x h1 h2
    have hj : j < T.length := (List.getElem?_eq_some_iff.1 h1).1
    injection h3 with h4
    omega
theorem own_tab {w : World} {b n : Nat} {v : Value} {xs : List Value} (h : w.ownsRow b 37 6 v (n + 1) xs) : ∃ g cap cur, v = .slice (some ⟨g, 0, none⟩) (n + 1) cap ∧ Blk w g 37 cur ∧ n + 1 ≤ cap ∧ cap ≤ maxLen ∧ cur.size = cap * 6 ∧ cur.toList.take ((n + 1) * 6) = xs := by
  rcases h.2 with ⟨-, h1⟩ | ⟨g, cap, cur, h1, h2, h3, h4, h5, h6, h7⟩
  · omega
  · exact ⟨g, cap, cur, h1, h3, h4, h5, h6, h7⟩
/-- the blocks of a table -/
def OwnT (p b m : Nat) (q : Nat) : Prop := q = p ∨ q = b ∨ q = m
theorem fr_step {p b b' m : Nat} {w w1 w2 : World} (h : Fr (OwnT p b m) w w1) (k : Fr (OwnT p b' m) w1 w2) (hb : b' = b ∨ w.heap.size ≤ b') : Fr (OwnT p b m) w w2 :=
  ⟨k.os.trans h.os, k.tape.trans h.tape, k.output.trans h.output, Nat.le_trans h.size k.size, fun q hq hs => (k.block q (Nat.lt_of_lt_of_le hq h.size) (fun z => by
    rcases z with z | z | z
    · exact hs (.inl z)
    · rcases hb with e | e
      · exact hs (.inr (.inl (z.trans e)))
      · omega
    · exact hs (.inr (.inr z)))).trans (h.block q hq hs)⟩
theorem own_not {α : Type} {en : α → List Value} {w : World} {sz p b m : Nat} {A : Option Addr} {xs : List α} {cs cur : Array Value} {T : List ShD} (h : SqA w 37 sz en A xs) (h0 : 0 < xs.length) (hP : Blk w p 54 cs) (_hA : Blk w b 37 cur) (hM : Mp w m stepE natE (prs T)) (hne : bl A ≠ b) : ¬ OwnT p b m (bl A) := by
  obtain ⟨c, fz, hh⟩ := h.tag h0
  rintro (e | e | e)
  · unfold Blk at hP; rw [e, hP] at hh; cases hh
  · exact hne e
  · obtain ⟨es, clk, h1, -⟩ := hM; rw [e, h1] at hh; cases hh
end Go.Proofs.Ytmiecljgcbfklaa
