/- Plain: the traversal. -/
import Derived.Test.YtmbaennilhdieaaRq5
namespace Go.Proofs.Ytmbaennilhdieaa
open Go.RowKit

theorem nodup_le : ∀ (b : Nat) {l : List Int}, l.Nodup → (∀ x ∈ l, 1 ≤ x ∧ x ≤ (b : Int)) → l.length ≤ b
  | 0, l, _, h => by
    cases l with
    | nil => exact Nat.le_refl _
    | cons x l => have := h x (by simp); omega
  | b + 1, l, hn, h => by
    have h1 := nodup_le b (hn.erase ((b : Int) + 1)) fun x hx => by
      obtain ⟨h2, h3⟩ := hn.mem_erase_iff.1 hx
      have := h x h3
      omega
    have h2 := List.length_erase (a := (b : Int) + 1) (l := l)
    split at h2 <;> omega
theorem lk_mem (kv : List (Int × Unit)) (a : Int) : (lk kv a).isSome = decide (a ∈ kv.map (·.1)) := by
  unfold lk
  rw [Bool.eq_iff_iff]
  simp [List.find?_isSome, List.mem_map]
/-- the numbers of all values fit into an int -/
def W64 (m : DMemory) : Prop := ∀ c ∈ m.Young ++ m.Old, ∀ v ∈ c.Slots ++ c.More, in64 v.N
theorem W64.at_ {m : DMemory} (h : W64 m) (a : Int) : ∀ v ∈ (atM m a).Slots ++ (atM m a).More, in64 v.N := by
  unfold atM
  cases hc : cellAt m a with
  | none => intro v hv; simp [zeroC] at hv
  | some c => exact h c (cellAt_mem hc)
/-- what was discovered so far -/
structure Tr (m : DMemory) (all : List Int) (met : List (Int × Unit)) : Prop where
  nd : all.Nodup
  mem : ∀ x, x ∈ met.map (·.1) ↔ x ∈ all
  has : ∀ x ∈ all, hasM m x = true
theorem Tr.len {m : DMemory} {roots : List DValue} (hs : Small m roots) {all : List Int} {met : List (Int × Unit)} (h : Tr m all met) : all.length ≤ 1200 := nodup_le 1200 h.nd fun x hx => ⟨by have := hasM_pos (h.has x hx); omega, by have := hasM_le hs (h.has x hx); omega⟩
theorem Tr.in64 {m : DMemory} {roots : List DValue} (hs : Small m roots) {all : List Int} {met : List (Int × Unit)} (h : Tr m all met) {x : Int} (hx : x ∈ all) : in64 x := by
  have h1 := hasM_pos (h.has x hx)
  have h2 := hasM_le hs (h.has x hx)
  unfold Go.Proofs.Ytmbaennilhdieaa.in64; omega
theorem Tr.add {m : DMemory} {all : List Int} {met : List (Int × Unit)} (h : Tr m all met) {x : Int} (hx : x ∉ all) (hh : hasM m x = true) : Tr m (all ++ [x]) (upL met x ()) := ⟨List.nodup_append.2 ⟨h.nd, by simp, fun a ha b hb e => by rw [List.mem_singleton] at hb; subst hb; subst e; exact hx ha⟩, fun y => by
  rw [upL_mem, List.mem_append, List.mem_singleton, h.mem y]; exact Or.comm, fun y hy => by
  rcases List.mem_append.1 hy with hy | hy
  · exact h.has y hy
  · rw [List.mem_singleton] at hy; subst hy; exact hh⟩
/-- the first k discovered cells were visited -/
def Clo (m : DMemory) (all : List Int) (k : Nat) : Prop := ∀ (i : Nat) (a x : Int), i < k → all[i]? = some a → x ∈ leadsL (atM m a) → hasM m x = true → x ∈ all
theorem leads_ok {m : DMemory} {roots : List DValue} (hs : Small m roots) (hw : W64 m) (a : Int) : (leadsL (atM m a)).length ≤ 2000 ∧ ∀ x ∈ leadsL (atM m a), in64 x := by
  have h1 := hs.at_ a
  have h2 := leadsL_len (atM m a)
  refine ⟨by omega, fun x hx => ?_⟩
  obtain ⟨v, h3, rfl⟩ := leadsL_mem hx
  exact hw.at_ a v h3
end Go.Proofs.Ytmbaennilhdieaa
