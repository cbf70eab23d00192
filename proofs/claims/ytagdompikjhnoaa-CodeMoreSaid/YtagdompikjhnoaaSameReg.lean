/- The statement 'x, y, z := Image{..}, Image{..}, Image{..}' of CodeSame, whatever order its operations take. -/
import Derived.Test.YtagdompikjhnoaaRefSame2
import Derived.Test.YtagdompikjhnoaaRegion
import Derived.Test.YtagdompikjhnoaaSmall
import Derived.Deep.DeepCutAuto
namespace Go.Proofs.Ytagdompikjhnoaa
open Go.RowKit

/-- the eight cells of an api.Code -/
structure Raw where
  name : ByteArray
  kind : Int
  length : Int
  regs : Int
  a1 : Option Addr
  n1 : Nat
  c1 : Nat
  a2 : Option Addr
  n2 : Nat
  c2 : Nat
  a3 : Option Addr
  n3 : Nat
  c3 : Nat
  a4 : Option Addr
  n4 : Nat
  c4 : Nat
def Raw.row (r : Raw) : Array Value := #[.string r.name, .int .i64 r.kind, .int .i64 r.length, .int .i64 r.regs, .slice r.a1 r.n1 r.c1, .slice r.a2 r.n2 r.c2, .slice r.a3 r.n3 r.c3, .slice r.a4 r.n4 r.c4]
theorem IsCode.raw {w : World} {v : Value} {c : CodeD} (h : IsCode w v c) : ∃ r : Raw, v = .agg r.row := by
  obtain ⟨A1, A2, A3, A4, n1, n2, n3, n4, c1, c2, c3, c4, hv⟩ := h.form
  exact ⟨⟨_, _, _, _, A1, n1, c1, A2, n2, c2, A3, n3, c3, A4, n4, c4⟩, hv⟩

abbrev slc (b n : Nat) : Value := .slice (some ⟨b, 0, none⟩) n n
abbrev ptr (b : Nat) : Value := .pointer (some ⟨b, 0, none⟩)

theorem infoC : (Try.prog.info? 31).map (·.size) = some 8 := by kernel_rfl
theorem infoI : (Try.prog.info? 35).map (·.size) = some 1 := by kernel_rfl

section
variable {s : Nat → Value} {w : World} {K : Value → World → Prop} {d : Option Nat} {ty : TypeId} {pos : String} {af : Array Edge} {gd : Option (Nat × Bool)}
theorem runs_loadC {t : Nat} (r : Raw) (b : Nat) (hs : s t = ptr b) (hb : Blk w b 31 r.row) (hk : K (.agg r.row) w) : Runs Try.prog ⟨d, .load 31 (.tmp t), ty, pos, af, gd⟩ s w K := by
  unfold Runs execOp
  simp only [ev, hs, Instr.loadAt, Instr.sureAddr, Sem.run_bind, Sem.run_pure, Result.andThen_ok, run_loadVar_row w b 31 31 r.row (0, 0) _ hb Try.underlying31 rfl infoC]
  exact hk
theorem runs_build2 {t u : Nat} (r q : Raw) (hs : s t = .agg r.row) (hu : s u = .agg q.row) (hk : K (slc w.heap.size 2) (w.alloc (.cells (r.row ++ q.row) 31))) :
    Runs Try.prog ⟨d, .buildSlice 33 2 #[(0, .tmp t), (1, .tmp u)], ty, pos, af, gd⟩ s w K := by
  have h : (Instr.buildSlice 33 2 #[(0, .agg r.row), (1, .agg q.row)]).run Try.prog w = .ok (slc w.heap.size 2) (w.alloc (.cells (r.row ++ q.row) 31)) := by kernel_rfl
  unfold Runs execOp
  simp only [ev, hs, hu, List.map_toArray, List.map_cons, List.map_nil, Sem.run_bind, Sem.run_pure, Result.andThen_ok, h]
  exact hk
theorem runs_build1 {t : Nat} (r : Raw) (hs : s t = .agg r.row) (hk : K (slc w.heap.size 1) (w.alloc (.cells r.row 31))) :
    Runs Try.prog ⟨d, .buildSlice 33 1 #[(0, .tmp t)], ty, pos, af, gd⟩ s w K := by
  have h : (Instr.buildSlice 33 1 #[(0, .agg r.row)]).run Try.prog w = .ok (slc w.heap.size 1) (w.alloc (.cells r.row 31)) := by kernel_rfl
  unfold Runs execOp
  simp only [ev, hs, List.map_toArray, List.map_cons, List.map_nil, Sem.run_bind, Sem.run_pure, Result.andThen_ok, h]
  exact hk
theorem runs_image {t : Nat} (b n : Nat) (hs : s t = slc b n) (hk : K (.agg #[slc b n]) w) : Runs Try.prog ⟨d, .build 35 #[(0, .tmp t)], ty, pos, af, gd⟩ s w K := by
  have h : (Instr.build 35 #[(0, slc b n)]).run Try.prog w = .ok (.agg #[slc b n]) w := by kernel_rfl
  unfold Runs execOp
  simp only [ev, hs, List.map_toArray, List.map_cons, List.map_nil, Sem.run_bind, Sem.run_pure, Result.andThen_ok, h]
  exact hk
theorem runs_allocI (hk : K (ptr w.heap.size) (w.alloc (.cells #[.slice none 0 0] 35))) : Runs Try.prog ⟨d, .alloc 35, ty, pos, af, gd⟩ s w K := by
  have h : (Instr.alloc 35 true (.tuple #[])).run Try.prog w = .ok (ptr w.heap.size) (w.alloc (.cells #[.slice none 0 0] 35)) := by kernel_rfl
  unfold Runs execOp
  simp only [Sem.run_bind, Sem.run_pure, Result.andThen_ok, h]
  exact hk
theorem runs_storeI {t u : Nat} (p b n : Nat) (v : Value) (hs : s t = ptr p) (hu : s u = .agg #[slc b n]) (hb : Blk w p 35 #[v]) (hk : K undef (w.setRow p #[slc b n])) : Runs Try.prog ⟨d, .store 35 (.tmp t) (.tmp u), ty, pos, af, gd⟩ s w K := by
  unfold Runs execOp
  simp only [ev, hs, hu, Instr.storeAt, Instr.sureAddr, Sem.run_bind, Sem.run_pure, Result.andThen_ok, run_storeVar_row w p 35 35 #[v] #[slc b n] hb infoI rfl (by kernel_rfl)]
  exact hk
end

theorem Blk.setRow_far {w : World} {b p : Nat} {t : TypeId} {cs ds : Array Value} (h : Blk w b t cs) (hp : b ≠ p) : Blk (w.setRow p ds) b t cs := (setRow_other w p b ds hp).trans h
theorem Blk.setRow_same {w : World} {p : Nat} {t : TypeId} {cs ds : Array Value} (h : Blk w p t cs) : Blk (w.setRow p ds) p t ds := setRow_heap w p cs ds t (0, 0) h
theorem Blk.ne {w : World} {b p : Nat} {t u : TypeId} {cs ds : Array Value} (h : Blk w b t cs) (k : Blk w p u ds) (hne : t ≠ u) : b ≠ p := by
  rintro rfl
  unfold Blk at h k
  rw [h] at k
  injection k with k
  injection k with _ k
  exact hne k
theorem ext_setRow {a w : World} (h : Ext a w) {p : Nat} (hp : a.heap.size ≤ p) (ds : Array Value) : Ext a (w.setRow p ds) :=
  ⟨h.os, h.tape, h.output, Nat.le_trans h.size (by simp), fun k hk => (setRow_other w p k ds (by omega)).trans (h.block k hk)⟩

structure J3 (w0 : World) (rA rB rC : Raw) (b3 b4 b5 : Nat) (s0 : Nat → Value) (l : Nat → Bool) (s : Nat → Value) (w : World) : Prop where
  ext : Ext w0 w
  fr : ∀ k, k ∉ ([24, 25, 26, 27, 28, 29, 30, 31, 32, 33, 34, 7, 8, 9] : List Nat) → s k = s0 k
  k3 : s 3 = ptr b3 ∧ Blk w0 b3 31 rA.row
  k4 : s 4 = ptr b4 ∧ Blk w0 b4 31 rB.row
  k5 : s 5 = ptr b5 ∧ Blk w0 b5 31 rC.row
  v0 : l 0 = true → s 24 = .agg rA.row
  v1 : l 1 = true → s 25 = .agg rB.row
  v4 : l 4 = true → s 28 = .agg rA.row
  v5 : l 5 = true → s 29 = .agg rC.row
  v8 : l 8 = true → s 32 = .agg rA.row
  s2 : l 2 = true → ∃ b, s 26 = slc b 2 ∧ Blk w b 31 (rA.row ++ rB.row)
  s6 : l 6 = true → ∃ b, s 30 = slc b 2 ∧ Blk w b 31 (rA.row ++ rC.row)
  s9 : l 9 = true → ∃ b, s 33 = slc b 1 ∧ Blk w b 31 rA.row
  g3 : l 3 = true → ∃ b, s 27 = .agg #[slc b 2] ∧ Blk w b 31 (rA.row ++ rB.row)
  g7 : l 7 = true → ∃ b, s 31 = .agg #[slc b 2] ∧ Blk w b 31 (rA.row ++ rC.row)
  g10 : l 10 = true → ∃ b, s 34 = .agg #[slc b 1] ∧ Blk w b 31 rA.row
  p11 : l 11 = true → ∃ p, s 7 = ptr p ∧ w0.heap.size ≤ p ∧ ∃ v, Blk w p 35 #[v] ∧ (l 14 = true → ∃ b, v = slc b 2 ∧ Blk w b 31 (rA.row ++ rB.row))
  c14 : l 14 = true → l 11 = true
  p12 : l 12 = true → ∃ p, s 8 = ptr p ∧ w0.heap.size ≤ p ∧ ∃ v, Blk w p 35 #[v] ∧ (l 15 = true → ∃ b, v = slc b 2 ∧ Blk w b 31 (rA.row ++ rC.row))
  c15 : l 15 = true → l 12 = true
  p13 : l 13 = true → ∃ p, s 9 = ptr p ∧ w0.heap.size ≤ p ∧ ∃ v, Blk w p 35 #[v] ∧ (l 16 = true → ∃ b, v = slc b 1 ∧ Blk w b 31 rA.row)
  c16 : l 16 = true → l 13 = true
  d78 : l 11 = true → l 12 = true → s 7 ≠ s 8
  d79 : l 11 = true → l 13 = true → s 7 ≠ s 9
  d89 : l 12 = true → l 13 = true → s 8 ≠ s 9

theorem J3.ext' {w0 : World} {rA rB rC : Raw} {b3 b4 b5 : Nat} {s0 : Nat → Value} {l : Nat → Bool} {s : Nat → Value} {w w' : World} (h : J3 w0 rA rB rC b3 b4 b5 s0 l s w) (hb : Ext w w') : J3 w0 rA rB rC b3 b4 b5 s0 l s w' where
  ext := h.ext.trans hb
  fr := h.fr
  k3 := h.k3
  k4 := h.k4
  k5 := h.k5
  v0 := h.v0
  v1 := h.v1
  v4 := h.v4
  v5 := h.v5
  v8 := h.v8
  s2 := fun hl => let ⟨b, e, k⟩ := h.s2 hl; ⟨b, e, k.ext hb⟩
  s6 := fun hl => let ⟨b, e, k⟩ := h.s6 hl; ⟨b, e, k.ext hb⟩
  s9 := fun hl => let ⟨b, e, k⟩ := h.s9 hl; ⟨b, e, k.ext hb⟩
  g3 := fun hl => let ⟨b, e, k⟩ := h.g3 hl; ⟨b, e, k.ext hb⟩
  g7 := fun hl => let ⟨b, e, k⟩ := h.g7 hl; ⟨b, e, k.ext hb⟩
  g10 := fun hl => let ⟨b, e, k⟩ := h.g10 hl; ⟨b, e, k.ext hb⟩
  p11 := fun hl => let ⟨p, e, q, v, k, m⟩ := h.p11 hl; ⟨p, e, q, v, k.ext hb, fun hs => let ⟨b, e2, k2⟩ := m hs; ⟨b, e2, k2.ext hb⟩⟩
  c14 := h.c14
  p12 := fun hl => let ⟨p, e, q, v, k, m⟩ := h.p12 hl; ⟨p, e, q, v, k.ext hb, fun hs => let ⟨b, e2, k2⟩ := m hs; ⟨b, e2, k2.ext hb⟩⟩
  c15 := h.c15
  p13 := fun hl => let ⟨p, e, q, v, k, m⟩ := h.p13 hl; ⟨p, e, q, v, k.ext hb, fun hs => let ⟨b, e2, k2⟩ := m hs; ⟨b, e2, k2.ext hb⟩⟩
  c16 := h.c16
  d78 := h.d78
  d79 := h.d79
  d89 := h.d89

theorem j3_0 {w0 : World} {rA rB rC : Raw} {b3 b4 b5 : Nat} {s0 : Nat → Value} {l : Nat → Bool} {s : Nat → Value} {w : World} (h : J3 w0 rA rB rC b3 b4 b5 s0 l s w) : J3 w0 rA rB rC b3 b4 b5 s0 (up l 0 true) (up s 24 (.agg rA.row)) w where
  ext := h.ext
  fr := fun k hk => by rw [up_other s _ (by rintro rfl; exact hk (by decide))]; exact h.fr k hk
  k3 := h.k3
  k4 := h.k4
  k5 := h.k5
  v0 := fun _ => rfl
  v1 := fun hl => h.v1 hl
  v4 := fun hl => h.v4 hl
  v5 := fun hl => h.v5 hl
  v8 := fun hl => h.v8 hl
  s2 := fun hl => h.s2 hl
  s6 := fun hl => h.s6 hl
  s9 := fun hl => h.s9 hl
  g3 := fun hl => h.g3 hl
  g7 := fun hl => h.g7 hl
  g10 := fun hl => h.g10 hl
  p11 := fun hl => h.p11 hl
  c14 := fun hl => h.c14 hl
  p12 := fun hl => h.p12 hl
  c15 := fun hl => h.c15 hl
  p13 := fun hl => h.p13 hl
  c16 := fun hl => h.c16 hl
  d78 := fun h1 h2 => h.d78 h1 h2
  d79 := fun h1 h2 => h.d79 h1 h2
  d89 := fun h1 h2 => h.d89 h1 h2

theorem j3_1 {w0 : World} {rA rB rC : Raw} {b3 b4 b5 : Nat} {s0 : Nat → Value} {l : Nat → Bool} {s : Nat → Value} {w : World} (h : J3 w0 rA rB rC b3 b4 b5 s0 l s w) : J3 w0 rA rB rC b3 b4 b5 s0 (up l 1 true) (up s 25 (.agg rB.row)) w where
  ext := h.ext
  fr := fun k hk => by rw [up_other s _ (by rintro rfl; exact hk (by decide))]; exact h.fr k hk
  k3 := h.k3
  k4 := h.k4
  k5 := h.k5
  v0 := fun hl => h.v0 hl
  v1 := fun _ => rfl
  v4 := fun hl => h.v4 hl
  v5 := fun hl => h.v5 hl
  v8 := fun hl => h.v8 hl
  s2 := fun hl => h.s2 hl
  s6 := fun hl => h.s6 hl
  s9 := fun hl => h.s9 hl
  g3 := fun hl => h.g3 hl
  g7 := fun hl => h.g7 hl
  g10 := fun hl => h.g10 hl
  p11 := fun hl => h.p11 hl
  c14 := fun hl => h.c14 hl
  p12 := fun hl => h.p12 hl
  c15 := fun hl => h.c15 hl
  p13 := fun hl => h.p13 hl
  c16 := fun hl => h.c16 hl
  d78 := fun h1 h2 => h.d78 h1 h2
  d79 := fun h1 h2 => h.d79 h1 h2
  d89 := fun h1 h2 => h.d89 h1 h2

theorem j3_4 {w0 : World} {rA rB rC : Raw} {b3 b4 b5 : Nat} {s0 : Nat → Value} {l : Nat → Bool} {s : Nat → Value} {w : World} (h : J3 w0 rA rB rC b3 b4 b5 s0 l s w) : J3 w0 rA rB rC b3 b4 b5 s0 (up l 4 true) (up s 28 (.agg rA.row)) w where
  ext := h.ext
  fr := fun k hk => by rw [up_other s _ (by rintro rfl; exact hk (by decide))]; exact h.fr k hk
  k3 := h.k3
  k4 := h.k4
  k5 := h.k5
  v0 := fun hl => h.v0 hl
  v1 := fun hl => h.v1 hl
  v4 := fun _ => rfl
  v5 := fun hl => h.v5 hl
  v8 := fun hl => h.v8 hl
  s2 := fun hl => h.s2 hl
  s6 := fun hl => h.s6 hl
  s9 := fun hl => h.s9 hl
  g3 := fun hl => h.g3 hl
  g7 := fun hl => h.g7 hl
  g10 := fun hl => h.g10 hl
  p11 := fun hl => h.p11 hl
  c14 := fun hl => h.c14 hl
  p12 := fun hl => h.p12 hl
  c15 := fun hl => h.c15 hl
  p13 := fun hl => h.p13 hl
  c16 := fun hl => h.c16 hl
  d78 := fun h1 h2 => h.d78 h1 h2
  d79 := fun h1 h2 => h.d79 h1 h2
  d89 := fun h1 h2 => h.d89 h1 h2

theorem j3_5 {w0 : World} {rA rB rC : Raw} {b3 b4 b5 : Nat} {s0 : Nat → Value} {l : Nat → Bool} {s : Nat → Value} {w : World} (h : J3 w0 rA rB rC b3 b4 b5 s0 l s w) : J3 w0 rA rB rC b3 b4 b5 s0 (up l 5 true) (up s 29 (.agg rC.row)) w where
  ext := h.ext
  fr := fun k hk => by rw [up_other s _ (by rintro rfl; exact hk (by decide))]; exact h.fr k hk
  k3 := h.k3
  k4 := h.k4
  k5 := h.k5
  v0 := fun hl => h.v0 hl
  v1 := fun hl => h.v1 hl
  v4 := fun hl => h.v4 hl
  v5 := fun _ => rfl
  v8 := fun hl => h.v8 hl
  s2 := fun hl => h.s2 hl
  s6 := fun hl => h.s6 hl
  s9 := fun hl => h.s9 hl
  g3 := fun hl => h.g3 hl
  g7 := fun hl => h.g7 hl
  g10 := fun hl => h.g10 hl
  p11 := fun hl => h.p11 hl
  c14 := fun hl => h.c14 hl
  p12 := fun hl => h.p12 hl
  c15 := fun hl => h.c15 hl
  p13 := fun hl => h.p13 hl
  c16 := fun hl => h.c16 hl
  d78 := fun h1 h2 => h.d78 h1 h2
  d79 := fun h1 h2 => h.d79 h1 h2
  d89 := fun h1 h2 => h.d89 h1 h2

theorem j3_8 {w0 : World} {rA rB rC : Raw} {b3 b4 b5 : Nat} {s0 : Nat → Value} {l : Nat → Bool} {s : Nat → Value} {w : World} (h : J3 w0 rA rB rC b3 b4 b5 s0 l s w) : J3 w0 rA rB rC b3 b4 b5 s0 (up l 8 true) (up s 32 (.agg rA.row)) w where
  ext := h.ext
  fr := fun k hk => by rw [up_other s _ (by rintro rfl; exact hk (by decide))]; exact h.fr k hk
  k3 := h.k3
  k4 := h.k4
  k5 := h.k5
  v0 := fun hl => h.v0 hl
  v1 := fun hl => h.v1 hl
  v4 := fun hl => h.v4 hl
  v5 := fun hl => h.v5 hl
  v8 := fun _ => rfl
  s2 := fun hl => h.s2 hl
  s6 := fun hl => h.s6 hl
  s9 := fun hl => h.s9 hl
  g3 := fun hl => h.g3 hl
  g7 := fun hl => h.g7 hl
  g10 := fun hl => h.g10 hl
  p11 := fun hl => h.p11 hl
  c14 := fun hl => h.c14 hl
  p12 := fun hl => h.p12 hl
  c15 := fun hl => h.c15 hl
  p13 := fun hl => h.p13 hl
  c16 := fun hl => h.c16 hl
  d78 := fun h1 h2 => h.d78 h1 h2
  d79 := fun h1 h2 => h.d79 h1 h2
  d89 := fun h1 h2 => h.d89 h1 h2

theorem j3_2 {w0 : World} {rA rB rC : Raw} {b3 b4 b5 : Nat} {s0 : Nat → Value} {l : Nat → Bool} {s : Nat → Value} {w : World} (h : J3 w0 rA rB rC b3 b4 b5 s0 l s w) {b : Nat} (hb : Blk w b 31 (rA.row ++ rB.row)) : J3 w0 rA rB rC b3 b4 b5 s0 (up l 2 true) (up s 26 (slc b 2)) w where
  ext := h.ext
  fr := fun k hk => by rw [up_other s _ (by rintro rfl; exact hk (by decide))]; exact h.fr k hk
  k3 := h.k3
  k4 := h.k4
  k5 := h.k5
  v0 := fun hl => h.v0 hl
  v1 := fun hl => h.v1 hl
  v4 := fun hl => h.v4 hl
  v5 := fun hl => h.v5 hl
  v8 := fun hl => h.v8 hl
  s2 := fun _ => ⟨b, rfl, hb⟩
  s6 := fun hl => h.s6 hl
  s9 := fun hl => h.s9 hl
  g3 := fun hl => h.g3 hl
  g7 := fun hl => h.g7 hl
  g10 := fun hl => h.g10 hl
  p11 := fun hl => h.p11 hl
  c14 := fun hl => h.c14 hl
  p12 := fun hl => h.p12 hl
  c15 := fun hl => h.c15 hl
  p13 := fun hl => h.p13 hl
  c16 := fun hl => h.c16 hl
  d78 := fun h1 h2 => h.d78 h1 h2
  d79 := fun h1 h2 => h.d79 h1 h2
  d89 := fun h1 h2 => h.d89 h1 h2

theorem j3_6 {w0 : World} {rA rB rC : Raw} {b3 b4 b5 : Nat} {s0 : Nat → Value} {l : Nat → Bool} {s : Nat → Value} {w : World} (h : J3 w0 rA rB rC b3 b4 b5 s0 l s w) {b : Nat} (hb : Blk w b 31 (rA.row ++ rC.row)) : J3 w0 rA rB rC b3 b4 b5 s0 (up l 6 true) (up s 30 (slc b 2)) w where
  ext := h.ext
  fr := fun k hk => by rw [up_other s _ (by rintro rfl; exact hk (by decide))]; exact h.fr k hk
  k3 := h.k3
  k4 := h.k4
  k5 := h.k5
  v0 := fun hl => h.v0 hl
  v1 := fun hl => h.v1 hl
  v4 := fun hl => h.v4 hl
  v5 := fun hl => h.v5 hl
  v8 := fun hl => h.v8 hl
  s2 := fun hl => h.s2 hl
  s6 := fun _ => ⟨b, rfl, hb⟩
  s9 := fun hl => h.s9 hl
  g3 := fun hl => h.g3 hl
  g7 := fun hl => h.g7 hl
  g10 := fun hl => h.g10 hl
  p11 := fun hl => h.p11 hl
  c14 := fun hl => h.c14 hl
  p12 := fun hl => h.p12 hl
  c15 := fun hl => h.c15 hl
  p13 := fun hl => h.p13 hl
  c16 := fun hl => h.c16 hl
  d78 := fun h1 h2 => h.d78 h1 h2
  d79 := fun h1 h2 => h.d79 h1 h2
  d89 := fun h1 h2 => h.d89 h1 h2

theorem j3_9 {w0 : World} {rA rB rC : Raw} {b3 b4 b5 : Nat} {s0 : Nat → Value} {l : Nat → Bool} {s : Nat → Value} {w : World} (h : J3 w0 rA rB rC b3 b4 b5 s0 l s w) {b : Nat} (hb : Blk w b 31 rA.row) : J3 w0 rA rB rC b3 b4 b5 s0 (up l 9 true) (up s 33 (slc b 1)) w where
  ext := h.ext
  fr := fun k hk => by rw [up_other s _ (by rintro rfl; exact hk (by decide))]; exact h.fr k hk
  k3 := h.k3
  k4 := h.k4
  k5 := h.k5
  v0 := fun hl => h.v0 hl
  v1 := fun hl => h.v1 hl
  v4 := fun hl => h.v4 hl
  v5 := fun hl => h.v5 hl
  v8 := fun hl => h.v8 hl
  s2 := fun hl => h.s2 hl
  s6 := fun hl => h.s6 hl
  s9 := fun _ => ⟨b, rfl, hb⟩
  g3 := fun hl => h.g3 hl
  g7 := fun hl => h.g7 hl
  g10 := fun hl => h.g10 hl
  p11 := fun hl => h.p11 hl
  c14 := fun hl => h.c14 hl
  p12 := fun hl => h.p12 hl
  c15 := fun hl => h.c15 hl
  p13 := fun hl => h.p13 hl
  c16 := fun hl => h.c16 hl
  d78 := fun h1 h2 => h.d78 h1 h2
  d79 := fun h1 h2 => h.d79 h1 h2
  d89 := fun h1 h2 => h.d89 h1 h2

theorem j3_3 {w0 : World} {rA rB rC : Raw} {b3 b4 b5 : Nat} {s0 : Nat → Value} {l : Nat → Bool} {s : Nat → Value} {w : World} (h : J3 w0 rA rB rC b3 b4 b5 s0 l s w) {b : Nat} (hb : Blk w b 31 (rA.row ++ rB.row)) : J3 w0 rA rB rC b3 b4 b5 s0 (up l 3 true) (up s 27 (.agg #[slc b 2])) w where
  ext := h.ext
  fr := fun k hk => by rw [up_other s _ (by rintro rfl; exact hk (by decide))]; exact h.fr k hk
  k3 := h.k3
  k4 := h.k4
  k5 := h.k5
  v0 := fun hl => h.v0 hl
  v1 := fun hl => h.v1 hl
  v4 := fun hl => h.v4 hl
  v5 := fun hl => h.v5 hl
  v8 := fun hl => h.v8 hl
  s2 := fun hl => h.s2 hl
  s6 := fun hl => h.s6 hl
  s9 := fun hl => h.s9 hl
  g3 := fun _ => ⟨b, rfl, hb⟩
  g7 := fun hl => h.g7 hl
  g10 := fun hl => h.g10 hl
  p11 := fun hl => h.p11 hl
  c14 := fun hl => h.c14 hl
  p12 := fun hl => h.p12 hl
  c15 := fun hl => h.c15 hl
  p13 := fun hl => h.p13 hl
  c16 := fun hl => h.c16 hl
  d78 := fun h1 h2 => h.d78 h1 h2
  d79 := fun h1 h2 => h.d79 h1 h2
  d89 := fun h1 h2 => h.d89 h1 h2

theorem j3_7 {w0 : World} {rA rB rC : Raw} {b3 b4 b5 : Nat} {s0 : Nat → Value} {l : Nat → Bool} {s : Nat → Value} {w : World} (h : J3 w0 rA rB rC b3 b4 b5 s0 l s w) {b : Nat} (hb : Blk w b 31 (rA.row ++ rC.row)) : J3 w0 rA rB rC b3 b4 b5 s0 (up l 7 true) (up s 31 (.agg #[slc b 2])) w where
  ext := h.ext
  fr := fun k hk => by rw [up_other s _ (by rintro rfl; exact hk (by decide))]; exact h.fr k hk
  k3 := h.k3
  k4 := h.k4
  k5 := h.k5
  v0 := fun hl => h.v0 hl
  v1 := fun hl => h.v1 hl
  v4 := fun hl => h.v4 hl
  v5 := fun hl => h.v5 hl
  v8 := fun hl => h.v8 hl
  s2 := fun hl => h.s2 hl
  s6 := fun hl => h.s6 hl
  s9 := fun hl => h.s9 hl
  g3 := fun hl => h.g3 hl
  g7 := fun _ => ⟨b, rfl, hb⟩
  g10 := fun hl => h.g10 hl
  p11 := fun hl => h.p11 hl
  c14 := fun hl => h.c14 hl
  p12 := fun hl => h.p12 hl
  c15 := fun hl => h.c15 hl
  p13 := fun hl => h.p13 hl
  c16 := fun hl => h.c16 hl
  d78 := fun h1 h2 => h.d78 h1 h2
  d79 := fun h1 h2 => h.d79 h1 h2
  d89 := fun h1 h2 => h.d89 h1 h2

theorem j3_10 {w0 : World} {rA rB rC : Raw} {b3 b4 b5 : Nat} {s0 : Nat → Value} {l : Nat → Bool} {s : Nat → Value} {w : World} (h : J3 w0 rA rB rC b3 b4 b5 s0 l s w) {b : Nat} (hb : Blk w b 31 rA.row) : J3 w0 rA rB rC b3 b4 b5 s0 (up l 10 true) (up s 34 (.agg #[slc b 1])) w where
  ext := h.ext
  fr := fun k hk => by rw [up_other s _ (by rintro rfl; exact hk (by decide))]; exact h.fr k hk
  k3 := h.k3
  k4 := h.k4
  k5 := h.k5
  v0 := fun hl => h.v0 hl
  v1 := fun hl => h.v1 hl
  v4 := fun hl => h.v4 hl
  v5 := fun hl => h.v5 hl
  v8 := fun hl => h.v8 hl
  s2 := fun hl => h.s2 hl
  s6 := fun hl => h.s6 hl
  s9 := fun hl => h.s9 hl
  g3 := fun hl => h.g3 hl
  g7 := fun hl => h.g7 hl
  g10 := fun _ => ⟨b, rfl, hb⟩
  p11 := fun hl => h.p11 hl
  c14 := fun hl => h.c14 hl
  p12 := fun hl => h.p12 hl
  c15 := fun hl => h.c15 hl
  p13 := fun hl => h.p13 hl
  c16 := fun hl => h.c16 hl
  d78 := fun h1 h2 => h.d78 h1 h2
  d79 := fun h1 h2 => h.d79 h1 h2
  d89 := fun h1 h2 => h.d89 h1 h2

theorem j3_11 {w0 : World} {rA rB rC : Raw} {b3 b4 b5 : Nat} {s0 : Nat → Value} {l : Nat → Bool} {s : Nat → Value} {w : World} (h : J3 w0 rA rB rC b3 b4 b5 s0 l s w) {p : Nat} (hl : l 11 = false) (hp : w0.heap.size ≤ p) (hb : Blk w p 35 #[.slice none 0 0]) (hne : ∀ q, (l 11 = true ∧ s 7 = ptr q ∨ l 12 = true ∧ s 8 = ptr q ∨ l 13 = true ∧ s 9 = ptr q) → p ≠ q) : J3 w0 rA rB rC b3 b4 b5 s0 (up l 11 true) (up s 7 (ptr p)) w where
  ext := h.ext
  fr := fun k hk => by rw [up_other s _ (by rintro rfl; exact hk (by decide))]; exact h.fr k hk
  k3 := h.k3
  k4 := h.k4
  k5 := h.k5
  v0 := fun hl => h.v0 hl
  v1 := fun hl => h.v1 hl
  v4 := fun hl => h.v4 hl
  v5 := fun hl => h.v5 hl
  v8 := fun hl => h.v8 hl
  s2 := fun hl => h.s2 hl
  s6 := fun hl => h.s6 hl
  s9 := fun hl => h.s9 hl
  g3 := fun hl => h.g3 hl
  g7 := fun hl => h.g7 hl
  g10 := fun hl => h.g10 hl
  p11 := fun _ => ⟨p, rfl, hp, _, hb, fun hs => absurd (h.c14 hs) (by rw [hl]; exact Bool.false_ne_true)⟩
  c14 := fun hs => by rw [up_other l true (show 14 ≠ 11 by decide)] at hs; exact absurd (h.c14 hs) (by rw [hl]; exact Bool.false_ne_true)
  p12 := fun hl => h.p12 hl
  c15 := fun hl => h.c15 hl
  p13 := fun hl => h.p13 hl
  c16 := fun hl => h.c16 hl
  d78 := fun _ h2 he => by obtain ⟨q, hq, -⟩ := h.p12 h2; exact hne q (.inr (.inl ⟨h2, hq⟩)) ((Value.pointer.inj (he.trans hq)) |> Option.some.inj |> congrArg Addr.block)
  d79 := fun _ h2 he => by obtain ⟨q, hq, -⟩ := h.p13 h2; exact hne q (.inr (.inr ⟨h2, hq⟩)) ((Value.pointer.inj (he.trans hq)) |> Option.some.inj |> congrArg Addr.block)
  d89 := fun h1 h2 => h.d89 h1 h2

theorem j3_12 {w0 : World} {rA rB rC : Raw} {b3 b4 b5 : Nat} {s0 : Nat → Value} {l : Nat → Bool} {s : Nat → Value} {w : World} (h : J3 w0 rA rB rC b3 b4 b5 s0 l s w) {p : Nat} (hl : l 12 = false) (hp : w0.heap.size ≤ p) (hb : Blk w p 35 #[.slice none 0 0]) (hne : ∀ q, (l 11 = true ∧ s 7 = ptr q ∨ l 12 = true ∧ s 8 = ptr q ∨ l 13 = true ∧ s 9 = ptr q) → p ≠ q) : J3 w0 rA rB rC b3 b4 b5 s0 (up l 12 true) (up s 8 (ptr p)) w where
  ext := h.ext
  fr := fun k hk => by rw [up_other s _ (by rintro rfl; exact hk (by decide))]; exact h.fr k hk
  k3 := h.k3
  k4 := h.k4
  k5 := h.k5
  v0 := fun hl => h.v0 hl
  v1 := fun hl => h.v1 hl
  v4 := fun hl => h.v4 hl
  v5 := fun hl => h.v5 hl
  v8 := fun hl => h.v8 hl
  s2 := fun hl => h.s2 hl
  s6 := fun hl => h.s6 hl
  s9 := fun hl => h.s9 hl
  g3 := fun hl => h.g3 hl
  g7 := fun hl => h.g7 hl
  g10 := fun hl => h.g10 hl
  p11 := fun hl => h.p11 hl
  c14 := fun hl => h.c14 hl
  p12 := fun _ => ⟨p, rfl, hp, _, hb, fun hs => absurd (h.c15 hs) (by rw [hl]; exact Bool.false_ne_true)⟩
  c15 := fun hs => by rw [up_other l true (show 15 ≠ 12 by decide)] at hs; exact absurd (h.c15 hs) (by rw [hl]; exact Bool.false_ne_true)
  p13 := fun hl => h.p13 hl
  c16 := fun hl => h.c16 hl
  d78 := fun h1 _ he => by obtain ⟨q, hq, -⟩ := h.p11 h1; exact hne q (.inl ⟨h1, hq⟩) ((Value.pointer.inj (he.symm.trans hq)) |> Option.some.inj |> congrArg Addr.block)
  d79 := fun h1 h2 => h.d79 h1 h2
  d89 := fun _ h2 he => by obtain ⟨q, hq, -⟩ := h.p13 h2; exact hne q (.inr (.inr ⟨h2, hq⟩)) ((Value.pointer.inj (he.trans hq)) |> Option.some.inj |> congrArg Addr.block)

theorem j3_13 {w0 : World} {rA rB rC : Raw} {b3 b4 b5 : Nat} {s0 : Nat → Value} {l : Nat → Bool} {s : Nat → Value} {w : World} (h : J3 w0 rA rB rC b3 b4 b5 s0 l s w) {p : Nat} (hl : l 13 = false) (hp : w0.heap.size ≤ p) (hb : Blk w p 35 #[.slice none 0 0]) (hne : ∀ q, (l 11 = true ∧ s 7 = ptr q ∨ l 12 = true ∧ s 8 = ptr q ∨ l 13 = true ∧ s 9 = ptr q) → p ≠ q) : J3 w0 rA rB rC b3 b4 b5 s0 (up l 13 true) (up s 9 (ptr p)) w where
  ext := h.ext
  fr := fun k hk => by rw [up_other s _ (by rintro rfl; exact hk (by decide))]; exact h.fr k hk
  k3 := h.k3
  k4 := h.k4
  k5 := h.k5
  v0 := fun hl => h.v0 hl
  v1 := fun hl => h.v1 hl
  v4 := fun hl => h.v4 hl
  v5 := fun hl => h.v5 hl
  v8 := fun hl => h.v8 hl
  s2 := fun hl => h.s2 hl
  s6 := fun hl => h.s6 hl
  s9 := fun hl => h.s9 hl
  g3 := fun hl => h.g3 hl
  g7 := fun hl => h.g7 hl
  g10 := fun hl => h.g10 hl
  p11 := fun hl => h.p11 hl
  c14 := fun hl => h.c14 hl
  p12 := fun hl => h.p12 hl
  c15 := fun hl => h.c15 hl
  p13 := fun _ => ⟨p, rfl, hp, _, hb, fun hs => absurd (h.c16 hs) (by rw [hl]; exact Bool.false_ne_true)⟩
  c16 := fun hs => by rw [up_other l true (show 16 ≠ 13 by decide)] at hs; exact absurd (h.c16 hs) (by rw [hl]; exact Bool.false_ne_true)
  d78 := fun h1 h2 => h.d78 h1 h2
  d79 := fun h1 _ he => by obtain ⟨q, hq, -⟩ := h.p11 h1; exact hne q (.inl ⟨h1, hq⟩) ((Value.pointer.inj (he.symm.trans hq)) |> Option.some.inj |> congrArg Addr.block)
  d89 := fun h1 _ he => by obtain ⟨q, hq, -⟩ := h.p12 h1; exact hne q (.inr (.inl ⟨h1, hq⟩)) ((Value.pointer.inj (he.symm.trans hq)) |> Option.some.inj |> congrArg Addr.block)

theorem j3_14 {w0 : World} {rA rB rC : Raw} {b3 b4 b5 : Nat} {s0 : Nat → Value} {l : Nat → Bool} {s : Nat → Value} {w : World} (h0 : J3 w0 rA rB rC b3 b4 b5 s0 l s w) {b p : Nat} {v : Value} (e : s 7 = ptr p) (hl : l 11 = true) (hp : w0.heap.size ≤ p) (hv : Blk w p 35 #[v]) (hb : Blk w b 31 (rA.row ++ rB.row)) : J3 w0 rA rB rC b3 b4 b5 s0 (up l 14 true) s (w.setRow p #[slc b 2]) :=
  have far : ∀ {q : Nat} {cs : Array Value}, Blk w q 31 cs → Blk (w.setRow p #[slc b 2]) q 31 cs := fun k => k.setRow_far (k.ne hv (by decide))
  { ext := ext_setRow h0.ext hp _
    fr := h0.fr
    k3 := h0.k3
    k4 := h0.k4
    k5 := h0.k5
    v0 := fun hl => h0.v0 hl
    v1 := fun hl => h0.v1 hl
    v4 := fun hl => h0.v4 hl
    v5 := fun hl => h0.v5 hl
    v8 := fun hl => h0.v8 hl
    s2 := fun hl => let ⟨b, e, k⟩ := h0.s2 hl; ⟨b, e, far k⟩
    s6 := fun hl => let ⟨b, e, k⟩ := h0.s6 hl; ⟨b, e, far k⟩
    s9 := fun hl => let ⟨b, e, k⟩ := h0.s9 hl; ⟨b, e, far k⟩
    g3 := fun hl => let ⟨b, e, k⟩ := h0.g3 hl; ⟨b, e, far k⟩
    g7 := fun hl => let ⟨b, e, k⟩ := h0.g7 hl; ⟨b, e, far k⟩
    g10 := fun hl => let ⟨b, e, k⟩ := h0.g10 hl; ⟨b, e, far k⟩
    p11 := fun _ => ⟨p, e, hp, _, hv.setRow_same, fun _ => ⟨b, rfl, far hb⟩⟩
    c14 := fun _ => hl
    p12 := fun hk => let ⟨q, e2, h2, v2, k2, m2⟩ := h0.p12 hk; ⟨q, e2, h2, v2, k2.setRow_far (fun eq => h0.d78 hl hk (e.trans ((congrArg ptr eq.symm).trans e2.symm))), fun hs => let ⟨b2, e3, k3⟩ := m2 hs; ⟨b2, e3, far k3⟩⟩
    c15 := fun hs => h0.c15 hs
    p13 := fun hk => let ⟨q, e2, h2, v2, k2, m2⟩ := h0.p13 hk; ⟨q, e2, h2, v2, k2.setRow_far (fun eq => h0.d79 hl hk (e.trans ((congrArg ptr eq.symm).trans e2.symm))), fun hs => let ⟨b2, e3, k3⟩ := m2 hs; ⟨b2, e3, far k3⟩⟩
    c16 := fun hs => h0.c16 hs
    d78 := fun h1 h2 => h0.d78 h1 h2
    d79 := fun h1 h2 => h0.d79 h1 h2
    d89 := fun h1 h2 => h0.d89 h1 h2 }

theorem j3_15 {w0 : World} {rA rB rC : Raw} {b3 b4 b5 : Nat} {s0 : Nat → Value} {l : Nat → Bool} {s : Nat → Value} {w : World} (h0 : J3 w0 rA rB rC b3 b4 b5 s0 l s w) {b p : Nat} {v : Value} (e : s 8 = ptr p) (hl : l 12 = true) (hp : w0.heap.size ≤ p) (hv : Blk w p 35 #[v]) (hb : Blk w b 31 (rA.row ++ rC.row)) : J3 w0 rA rB rC b3 b4 b5 s0 (up l 15 true) s (w.setRow p #[slc b 2]) :=
  have far : ∀ {q : Nat} {cs : Array Value}, Blk w q 31 cs → Blk (w.setRow p #[slc b 2]) q 31 cs := fun k => k.setRow_far (k.ne hv (by decide))
  { ext := ext_setRow h0.ext hp _
    fr := h0.fr
    k3 := h0.k3
    k4 := h0.k4
    k5 := h0.k5
    v0 := fun hl => h0.v0 hl
    v1 := fun hl => h0.v1 hl
    v4 := fun hl => h0.v4 hl
    v5 := fun hl => h0.v5 hl
    v8 := fun hl => h0.v8 hl
    s2 := fun hl => let ⟨b, e, k⟩ := h0.s2 hl; ⟨b, e, far k⟩
    s6 := fun hl => let ⟨b, e, k⟩ := h0.s6 hl; ⟨b, e, far k⟩
    s9 := fun hl => let ⟨b, e, k⟩ := h0.s9 hl; ⟨b, e, far k⟩
    g3 := fun hl => let ⟨b, e, k⟩ := h0.g3 hl; ⟨b, e, far k⟩
    g7 := fun hl => let ⟨b, e, k⟩ := h0.g7 hl; ⟨b, e, far k⟩
    g10 := fun hl => let ⟨b, e, k⟩ := h0.g10 hl; ⟨b, e, far k⟩
    p11 := fun hk => let ⟨q, e2, h2, v2, k2, m2⟩ := h0.p11 hk; ⟨q, e2, h2, v2, k2.setRow_far (fun eq => h0.d78 hk hl (e2.trans ((congrArg ptr eq).trans e.symm))), fun hs => let ⟨b2, e3, k3⟩ := m2 hs; ⟨b2, e3, far k3⟩⟩
    c14 := fun hs => h0.c14 hs
    p12 := fun _ => ⟨p, e, hp, _, hv.setRow_same, fun _ => ⟨b, rfl, far hb⟩⟩
    c15 := fun _ => hl
    p13 := fun hk => let ⟨q, e2, h2, v2, k2, m2⟩ := h0.p13 hk; ⟨q, e2, h2, v2, k2.setRow_far (fun eq => h0.d89 hl hk (e.trans ((congrArg ptr eq.symm).trans e2.symm))), fun hs => let ⟨b2, e3, k3⟩ := m2 hs; ⟨b2, e3, far k3⟩⟩
    c16 := fun hs => h0.c16 hs
    d78 := fun h1 h2 => h0.d78 h1 h2
    d79 := fun h1 h2 => h0.d79 h1 h2
    d89 := fun h1 h2 => h0.d89 h1 h2 }

theorem j3_16 {w0 : World} {rA rB rC : Raw} {b3 b4 b5 : Nat} {s0 : Nat → Value} {l : Nat → Bool} {s : Nat → Value} {w : World} (h0 : J3 w0 rA rB rC b3 b4 b5 s0 l s w) {b p : Nat} {v : Value} (e : s 9 = ptr p) (hl : l 13 = true) (hp : w0.heap.size ≤ p) (hv : Blk w p 35 #[v]) (hb : Blk w b 31 rA.row) : J3 w0 rA rB rC b3 b4 b5 s0 (up l 16 true) s (w.setRow p #[slc b 1]) :=
  have far : ∀ {q : Nat} {cs : Array Value}, Blk w q 31 cs → Blk (w.setRow p #[slc b 1]) q 31 cs := fun k => k.setRow_far (k.ne hv (by decide))
  { ext := ext_setRow h0.ext hp _
    fr := h0.fr
    k3 := h0.k3
    k4 := h0.k4
    k5 := h0.k5
    v0 := fun hl => h0.v0 hl
    v1 := fun hl => h0.v1 hl
    v4 := fun hl => h0.v4 hl
    v5 := fun hl => h0.v5 hl
    v8 := fun hl => h0.v8 hl
    s2 := fun hl => let ⟨b, e, k⟩ := h0.s2 hl; ⟨b, e, far k⟩
    s6 := fun hl => let ⟨b, e, k⟩ := h0.s6 hl; ⟨b, e, far k⟩
    s9 := fun hl => let ⟨b, e, k⟩ := h0.s9 hl; ⟨b, e, far k⟩
    g3 := fun hl => let ⟨b, e, k⟩ := h0.g3 hl; ⟨b, e, far k⟩
    g7 := fun hl => let ⟨b, e, k⟩ := h0.g7 hl; ⟨b, e, far k⟩
    g10 := fun hl => let ⟨b, e, k⟩ := h0.g10 hl; ⟨b, e, far k⟩
    p11 := fun hk => let ⟨q, e2, h2, v2, k2, m2⟩ := h0.p11 hk; ⟨q, e2, h2, v2, k2.setRow_far (fun eq => h0.d79 hk hl (e2.trans ((congrArg ptr eq).trans e.symm))), fun hs => let ⟨b2, e3, k3⟩ := m2 hs; ⟨b2, e3, far k3⟩⟩
    c14 := fun hs => h0.c14 hs
    p12 := fun hk => let ⟨q, e2, h2, v2, k2, m2⟩ := h0.p12 hk; ⟨q, e2, h2, v2, k2.setRow_far (fun eq => h0.d89 hk hl (e2.trans ((congrArg ptr eq).trans e.symm))), fun hs => let ⟨b2, e3, k3⟩ := m2 hs; ⟨b2, e3, far k3⟩⟩
    c15 := fun hs => h0.c15 hs
    p13 := fun _ => ⟨p, e, hp, _, hv.setRow_same, fun _ => ⟨b, rfl, far hb⟩⟩
    c16 := fun _ => hl
    d78 := fun h1 h2 => h0.d78 h1 h2
    d79 := fun h1 h2 => h0.d79 h1 h2
    d89 := fun h1 h2 => h0.d89 h1 h2 }

theorem J3.fresh {w0 : World} {rA rB rC : Raw} {b3 b4 b5 : Nat} {s0 : Nat → Value} {l : Nat → Bool} {s : Nat → Value} {w : World} (h : J3 w0 rA rB rC b3 b4 b5 s0 l s w) :
    ∀ q, (l 11 = true ∧ s 7 = ptr q ∨ l 12 = true ∧ s 8 = ptr q ∨ l 13 = true ∧ s 9 = ptr q) → w.heap.size ≠ q := by
  have key : ∀ {k : Nat} {q p : Nat} {v : Value}, s k = ptr q → s k = ptr p → Blk w p 35 #[v] → w.heap.size ≠ q := fun e1 e2 hb he => by
    have e3 : ptr _ = ptr _ := e1.symm.trans e2
    have e4 := congrArg Addr.block (Option.some.inj (Value.pointer.inj e3))
    have := hb.lt
    simp only at e4
    omega
  rintro q (⟨h1, h2⟩ | ⟨h1, h2⟩ | ⟨h1, h2⟩)
  · obtain ⟨p, e, -, v, k, -⟩ := h.p11 h1
    exact key h2 e k
  · obtain ⟨p, e, -, v, k, -⟩ := h.p12 h1
    exact key h2 e k
  · obtain ⟨p, e, -, v, k, -⟩ := h.p13 h1
    exact key h2 e k
end Go.Proofs.Ytagdompikjhnoaa
