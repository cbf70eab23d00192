/- insRight of package code: what it answers. -/
import Derived.Test.YtagdompikjhnoaaPart
import Derived.Test.YtagdompikjhnoaaNames
import Derived.Test.YtagdompikjhnoaaRegion2
namespace Go.Proofs.Ytagdompikjhnoaa
open Go.RowKit

def insB (c : CodeD) (x : I4) : Bool := match pt x.a with
  | [b0, b1, b2] => partB c b0.toNat x.b && partB c b1.toNat x.c && partB c b2.toNat x.d
  | _ => false
theorem pt_len : ∀ k : Fin 55, (ptL k).length = 3 := by decide +kernel
theorem pt_three (k : Int) : pt k = [] ∨ ∃ b0 b1 b2, pt k = [b0, b1, b2] := by
  by_cases h : 0 ≤ k ∧ k < 55
  · right
    have hl := pt_len ⟨k.toNat, by omega⟩
    simp only at hl
    have e : pt k = ptL k.toNat := by simp [pt, h]
    rw [e]
    match ptL k.toNat, hl with
    | [b0, b1, b2], _ => exact ⟨b0, b1, b2, rfl⟩
  · left; simp [pt, h]
def insV (x : I4) : Value := .agg #[.int .i64 x.a, .int .i64 x.b, .int .i64 x.c, .int .i64 x.d]

set_option maxHeartbeats 4000000 in
set_option maxRecDepth 100000 in
theorem ins_core (c : CodeD) (x : I4) (v : Value) (w : World) (hc : IsCode w v c) (hr0 : 0 ≤ c.regs) (hr1 : c.regs ≤ 4096) (hxb : x.b ≤ 9223372036854775807) (hxc : x.c ≤ 9223372036854775807) (hxd : x.d ≤ 9223372036854775807)
    (b0 b1 b2 : UInt8) (hp : Hid (pt x.a = [b0, b1, b2])) (d0 d1 d2 : Bool) (D0 : Hid (partB c b0.toNat x.b = d0)) (D1 : Hid (partB c b1.toNat x.c = d1)) (D2 : Hid (partB c b2.toNat x.d = d2)) :
    Calls Try.prog 35 #[v, insV x] w fun e w' => e = .returned (.bool (d0 && d1 && d2)) ∧ Ext w w' := by
  obtain ⟨A1, A2, A3, A4, n1, n2, n3, n4, c1, c2, c3, c4, rfl⟩ := hc.form
  unfold insV
  have hE : Ext w ((w.alloc (.cells #[.string c.name, .int .i64 c.kind, .int .i64 c.length, .int .i64 c.regs, .slice A1 n1 c1, .slice A2 n2 c2, .slice A3 n3 c3, .slice A4 n4 c4] 31)).alloc (.cells #[.int .i64 x.a, .int .i64 x.b, .int .i64 x.c, .int .i64 x.d] 42)) := ((Ext.refl w).alloc _).alloc _
  have hA : Blk ((w.alloc (.cells #[.string c.name, .int .i64 c.kind, .int .i64 c.length, .int .i64 c.regs, .slice A1 n1 c1, .slice A2 n2 c2, .slice A3 n3 c3, .slice A4 n4 c4] 31)).alloc (.cells #[.int .i64 x.a, .int .i64 x.b, .int .i64 x.c, .int .i64 x.d] 42)) w.heap.size 31 #[.string c.name, .int .i64 c.kind, .int .i64 c.length, .int .i64 c.regs, .slice A1 n1 c1, .slice A2 n2 c2, .slice A3 n3 c3, .slice A4 n4 c4] := (Blk.new w 31 #[.string c.name, .int .i64 c.kind, .int .i64 c.length, .int .i64 c.regs, .slice A1 n1 c1, .slice A2 n2 c2, .slice A3 n3 c3, .slice A4 n4 c4]).alloc _
  have hB : Blk ((w.alloc (.cells #[.string c.name, .int .i64 c.kind, .int .i64 c.length, .int .i64 c.regs, .slice A1 n1 c1, .slice A2 n2 c2, .slice A3 n3 c3, .slice A4 n4 c4] 31)).alloc (.cells #[.int .i64 x.a, .int .i64 x.b, .int .i64 x.c, .int .i64 x.d] 42)) (w.heap.size + 1) 42 #[.int .i64 x.a, .int .i64 x.b, .int .i64 x.c, .int .i64 x.d] := by
    have := Blk.new (w.alloc (.cells #[.string c.name, .int .i64 c.kind, .int .i64 c.length, .int .i64 c.regs, .slice A1 n1 c1, .slice A2 n2 c2, .slice A3 n3 c3, .slice A4 n4 c4] 31)) 42 #[.int .i64 x.a, .int .i64 x.b, .int .i64 x.c, .int .i64 x.d]
    rwa [World.size_alloc] at this
  have HE := Lib.hid hE
  have HA := Lib.hid hA
  have HB := Lib.hid hB
  clear hE hA hB
  go_enter Try.func35, Try.ntmps35
  go_wp2_with fail
  generalize (w.alloc (.cells #[.string c.name, .int .i64 c.kind, .int .i64 c.length, .int .i64 c.regs, .slice A1 n1 c1, .slice A2 n2 c2, .slice A3 n3 c3, .slice A4 n4 c4] 31)).alloc (.cells #[.int .i64 x.a, .int .i64 x.b, .int .i64 x.c, .int .i64 x.d] 42) = W at HE HA HB ⊢
  refine (parts_any _ _).mono ?_
  rintro e w1 ⟨rfl, hb⟩
  rw [hp.out]
  replace HE := Lib.hid (HE.out.trans hb)
  replace HA := Lib.hid (HA.out.ext hb)
  replace HB := Lib.hid (HB.out.ext hb)
  clear hb hp
  go_wp2_with fail
  refine wp_region_quiet (C := fun w' => Ext w1 w') (by kernel_rfl) (by kernel_rfl) (Ext.refl w1).drew ?_
  simp only []
  cases d0
  · skip
    apply quiet_get rfl
    · intro w' hC
      go_simp <;> rfl
    simp only [Act.put, List.setIfInBounds_toArray, List.set_cons_succ, List.set_cons_zero]
    apply quiet_get rfl
    · intro w' hC
      go_simp <;> rfl
    simp only [Act.put, List.setIfInBounds_toArray, List.set_cons_succ, List.set_cons_zero]
    apply quiet_get rfl
    · intro w' hC
      go_simp <;> rfl
    simp only [Act.put, List.setIfInBounds_toArray, List.set_cons_succ, List.set_cons_zero]
    apply quiet_get rfl
    · intro w' hC
      have q1 := (HA.out.ext hC).cells
      have q2 := (HB.out.ext hC).cells
      go_simp <;> rfl
    simp only [Act.put, List.setIfInBounds_toArray, List.set_cons_succ, List.set_cons_zero]
    apply quiet_get rfl
    · intro w' hC
      go_simp <;> rfl
    simp only [Act.put, List.setIfInBounds_toArray, List.set_cons_succ, List.set_cons_zero]
    apply quiet_get rfl
    · intro w' hC
      go_simp <;> rfl
    simp only [Act.put, List.setIfInBounds_toArray, List.set_cons_succ, List.set_cons_zero]
    apply quiet_get rfl
    · intro w' hC
      go_simp <;> rfl
    simp only [Act.put, List.setIfInBounds_toArray, List.set_cons_succ, List.set_cons_zero]
    apply quiet_get rfl
    · intro w' hC
      have q1 := (HA.out.ext hC).cells
      have q2 := (HB.out.ext hC).cells
      go_simp <;> rfl
    simp only [Act.put, List.setIfInBounds_toArray, List.set_cons_succ, List.set_cons_zero]
    quiet_step ((intro hC; exact accE hC (part_any _ c b0.toNat x.b _ (hc.mono (HE.out.trans hC)) hr0 hr1 hxb)))
    rw [D0.out]
    apply quiet_get rfl
    · intro w' hC
      go_simp <;> rfl
    simp only [Act.put, List.setIfInBounds_toArray, List.set_cons_succ, List.set_cons_zero]
    apply quiet_get rfl
    · intro w' hC
      go_simp <;> rfl
    simp only [Act.put, List.setIfInBounds_toArray, List.set_cons_succ, List.set_cons_zero]
    refine quiet_skip rfl ?_
    simp only [Act.put, List.setIfInBounds_toArray, List.set_cons_succ, List.set_cons_zero]
    refine quiet_skip rfl ?_
    simp only [Act.put, List.setIfInBounds_toArray, List.set_cons_succ, List.set_cons_zero]
    refine quiet_skip rfl ?_
    simp only [Act.put, List.setIfInBounds_toArray, List.set_cons_succ, List.set_cons_zero]
    refine quiet_skip rfl ?_
    simp only [Act.put, List.setIfInBounds_toArray, List.set_cons_succ, List.set_cons_zero]
    refine quiet_skip rfl ?_
    simp only [Act.put, List.setIfInBounds_toArray, List.set_cons_succ, List.set_cons_zero]
    refine quiet_skip rfl ?_
    simp only [Act.put, List.setIfInBounds_toArray, List.set_cons_succ, List.set_cons_zero]
    apply quiet_get rfl
    · intro w' hC
      go_simp <;> rfl
    simp only [Act.put, List.setIfInBounds_toArray, List.set_cons_succ, List.set_cons_zero]
    apply quiet_get rfl
    · intro w' hC
      go_simp <;> rfl
    simp only [Act.put, List.setIfInBounds_toArray, List.set_cons_succ, List.set_cons_zero]
    refine quiet_skip rfl ?_
    simp only [Act.put, List.setIfInBounds_toArray, List.set_cons_succ, List.set_cons_zero]
    refine quiet_skip rfl ?_
    simp only [Act.put, List.setIfInBounds_toArray, List.set_cons_succ, List.set_cons_zero]
    refine quiet_skip rfl ?_
    simp only [Act.put, List.setIfInBounds_toArray, List.set_cons_succ, List.set_cons_zero]
    refine quiet_skip rfl ?_
    simp only [Act.put, List.setIfInBounds_toArray, List.set_cons_succ, List.set_cons_zero]
    refine quiet_skip rfl ?_
    simp only [Act.put, List.setIfInBounds_toArray, List.set_cons_succ, List.set_cons_zero]
    refine quiet_skip rfl ?_
    simp only [Act.put, List.setIfInBounds_toArray, List.set_cons_succ, List.set_cons_zero]
    apply quiet_get rfl
    · intro w' hC
      go_simp <;> rfl
    simp only [Act.put, List.setIfInBounds_toArray, List.set_cons_succ, List.set_cons_zero]
    apply quiet_get rfl
    · intro w' hC
      go_simp <;> rfl
    simp only [Act.put, List.setIfInBounds_toArray, List.set_cons_succ, List.set_cons_zero]
    refine wpQuiet_nil ?_
    intro w' hC
    go_wp2_with fail
    go_ret
    exact ⟨rfl, HE.out.trans hC⟩
  cases d1
  · skip
    apply quiet_get rfl
    · intro w' hC
      go_simp <;> rfl
    simp only [Act.put, List.setIfInBounds_toArray, List.set_cons_succ, List.set_cons_zero]
    apply quiet_get rfl
    · intro w' hC
      go_simp <;> rfl
    simp only [Act.put, List.setIfInBounds_toArray, List.set_cons_succ, List.set_cons_zero]
    apply quiet_get rfl
    · intro w' hC
      go_simp <;> rfl
    simp only [Act.put, List.setIfInBounds_toArray, List.set_cons_succ, List.set_cons_zero]
    apply quiet_get rfl
    · intro w' hC
      have q1 := (HA.out.ext hC).cells
      have q2 := (HB.out.ext hC).cells
      go_simp <;> rfl
    simp only [Act.put, List.setIfInBounds_toArray, List.set_cons_succ, List.set_cons_zero]
    apply quiet_get rfl
    · intro w' hC
      go_simp <;> rfl
    simp only [Act.put, List.setIfInBounds_toArray, List.set_cons_succ, List.set_cons_zero]
    apply quiet_get rfl
    · intro w' hC
      go_simp <;> rfl
    simp only [Act.put, List.setIfInBounds_toArray, List.set_cons_succ, List.set_cons_zero]
    apply quiet_get rfl
    · intro w' hC
      go_simp <;> rfl
    simp only [Act.put, List.setIfInBounds_toArray, List.set_cons_succ, List.set_cons_zero]
    apply quiet_get rfl
    · intro w' hC
      have q1 := (HA.out.ext hC).cells
      have q2 := (HB.out.ext hC).cells
      go_simp <;> rfl
    simp only [Act.put, List.setIfInBounds_toArray, List.set_cons_succ, List.set_cons_zero]
    quiet_step ((intro hC; exact accE hC (part_any _ c b0.toNat x.b _ (hc.mono (HE.out.trans hC)) hr0 hr1 hxb)))
    rw [D0.out]
    apply quiet_get rfl
    · intro w' hC
      go_simp <;> rfl
    simp only [Act.put, List.setIfInBounds_toArray, List.set_cons_succ, List.set_cons_zero]
    apply quiet_get rfl
    · intro w' hC
      go_simp <;> rfl
    simp only [Act.put, List.setIfInBounds_toArray, List.set_cons_succ, List.set_cons_zero]
    apply quiet_get rfl
    · intro w' hC
      have q1 := (HA.out.ext hC).cells
      have q2 := (HB.out.ext hC).cells
      go_simp <;> rfl
    simp only [Act.put, List.setIfInBounds_toArray, List.set_cons_succ, List.set_cons_zero]
    apply quiet_get rfl
    · intro w' hC
      go_simp <;> rfl
    simp only [Act.put, List.setIfInBounds_toArray, List.set_cons_succ, List.set_cons_zero]
    apply quiet_get rfl
    · intro w' hC
      go_simp <;> rfl
    simp only [Act.put, List.setIfInBounds_toArray, List.set_cons_succ, List.set_cons_zero]
    apply quiet_get rfl
    · intro w' hC
      go_simp <;> rfl
    simp only [Act.put, List.setIfInBounds_toArray, List.set_cons_succ, List.set_cons_zero]
    apply quiet_get rfl
    · intro w' hC
      have q1 := (HA.out.ext hC).cells
      have q2 := (HB.out.ext hC).cells
      go_simp <;> rfl
    simp only [Act.put, List.setIfInBounds_toArray, List.set_cons_succ, List.set_cons_zero]
    quiet_step ((intro hC; exact accE hC (part_any _ c b1.toNat x.c _ (hc.mono (HE.out.trans hC)) hr0 hr1 hxc)))
    rw [D1.out]
    apply quiet_get rfl
    · intro w' hC
      go_simp <;> rfl
    simp only [Act.put, List.setIfInBounds_toArray, List.set_cons_succ, List.set_cons_zero]
    apply quiet_get rfl
    · intro w' hC
      go_simp <;> rfl
    simp only [Act.put, List.setIfInBounds_toArray, List.set_cons_succ, List.set_cons_zero]
    refine quiet_skip rfl ?_
    simp only [Act.put, List.setIfInBounds_toArray, List.set_cons_succ, List.set_cons_zero]
    refine quiet_skip rfl ?_
    simp only [Act.put, List.setIfInBounds_toArray, List.set_cons_succ, List.set_cons_zero]
    refine quiet_skip rfl ?_
    simp only [Act.put, List.setIfInBounds_toArray, List.set_cons_succ, List.set_cons_zero]
    refine quiet_skip rfl ?_
    simp only [Act.put, List.setIfInBounds_toArray, List.set_cons_succ, List.set_cons_zero]
    refine quiet_skip rfl ?_
    simp only [Act.put, List.setIfInBounds_toArray, List.set_cons_succ, List.set_cons_zero]
    refine quiet_skip rfl ?_
    simp only [Act.put, List.setIfInBounds_toArray, List.set_cons_succ, List.set_cons_zero]
    apply quiet_get rfl
    · intro w' hC
      go_simp <;> rfl
    simp only [Act.put, List.setIfInBounds_toArray, List.set_cons_succ, List.set_cons_zero]
    apply quiet_get rfl
    · intro w' hC
      go_simp <;> rfl
    simp only [Act.put, List.setIfInBounds_toArray, List.set_cons_succ, List.set_cons_zero]
    refine wpQuiet_nil ?_
    intro w' hC
    go_wp2_with fail
    go_ret
    exact ⟨rfl, HE.out.trans hC⟩
  cases d2
  · skip
    apply quiet_get rfl
    · intro w' hC
      go_simp <;> rfl
    simp only [Act.put, List.setIfInBounds_toArray, List.set_cons_succ, List.set_cons_zero]
    apply quiet_get rfl
    · intro w' hC
      go_simp <;> rfl
    simp only [Act.put, List.setIfInBounds_toArray, List.set_cons_succ, List.set_cons_zero]
    apply quiet_get rfl
    · intro w' hC
      go_simp <;> rfl
    simp only [Act.put, List.setIfInBounds_toArray, List.set_cons_succ, List.set_cons_zero]
    apply quiet_get rfl
    · intro w' hC
      have q1 := (HA.out.ext hC).cells
      have q2 := (HB.out.ext hC).cells
      go_simp <;> rfl
    simp only [Act.put, List.setIfInBounds_toArray, List.set_cons_succ, List.set_cons_zero]
    apply quiet_get rfl
    · intro w' hC
      go_simp <;> rfl
    simp only [Act.put, List.setIfInBounds_toArray, List.set_cons_succ, List.set_cons_zero]
    apply quiet_get rfl
    · intro w' hC
      go_simp <;> rfl
    simp only [Act.put, List.setIfInBounds_toArray, List.set_cons_succ, List.set_cons_zero]
    apply quiet_get rfl
    · intro w' hC
      go_simp <;> rfl
    simp only [Act.put, List.setIfInBounds_toArray, List.set_cons_succ, List.set_cons_zero]
    apply quiet_get rfl
    · intro w' hC
      have q1 := (HA.out.ext hC).cells
      have q2 := (HB.out.ext hC).cells
      go_simp <;> rfl
    simp only [Act.put, List.setIfInBounds_toArray, List.set_cons_succ, List.set_cons_zero]
    quiet_step ((intro hC; exact accE hC (part_any _ c b0.toNat x.b _ (hc.mono (HE.out.trans hC)) hr0 hr1 hxb)))
    rw [D0.out]
    apply quiet_get rfl
    · intro w' hC
      go_simp <;> rfl
    simp only [Act.put, List.setIfInBounds_toArray, List.set_cons_succ, List.set_cons_zero]
    apply quiet_get rfl
    · intro w' hC
      go_simp <;> rfl
    simp only [Act.put, List.setIfInBounds_toArray, List.set_cons_succ, List.set_cons_zero]
    apply quiet_get rfl
    · intro w' hC
      have q1 := (HA.out.ext hC).cells
      have q2 := (HB.out.ext hC).cells
      go_simp <;> rfl
    simp only [Act.put, List.setIfInBounds_toArray, List.set_cons_succ, List.set_cons_zero]
    apply quiet_get rfl
    · intro w' hC
      go_simp <;> rfl
    simp only [Act.put, List.setIfInBounds_toArray, List.set_cons_succ, List.set_cons_zero]
    apply quiet_get rfl
    · intro w' hC
      go_simp <;> rfl
    simp only [Act.put, List.setIfInBounds_toArray, List.set_cons_succ, List.set_cons_zero]
    apply quiet_get rfl
    · intro w' hC
      go_simp <;> rfl
    simp only [Act.put, List.setIfInBounds_toArray, List.set_cons_succ, List.set_cons_zero]
    apply quiet_get rfl
    · intro w' hC
      have q1 := (HA.out.ext hC).cells
      have q2 := (HB.out.ext hC).cells
      go_simp <;> rfl
    simp only [Act.put, List.setIfInBounds_toArray, List.set_cons_succ, List.set_cons_zero]
    quiet_step ((intro hC; exact accE hC (part_any _ c b1.toNat x.c _ (hc.mono (HE.out.trans hC)) hr0 hr1 hxc)))
    rw [D1.out]
    apply quiet_get rfl
    · intro w' hC
      go_simp <;> rfl
    simp only [Act.put, List.setIfInBounds_toArray, List.set_cons_succ, List.set_cons_zero]
    apply quiet_get rfl
    · intro w' hC
      go_simp <;> rfl
    simp only [Act.put, List.setIfInBounds_toArray, List.set_cons_succ, List.set_cons_zero]
    apply quiet_get rfl
    · intro w' hC
      have q1 := (HA.out.ext hC).cells
      have q2 := (HB.out.ext hC).cells
      go_simp <;> rfl
    simp only [Act.put, List.setIfInBounds_toArray, List.set_cons_succ, List.set_cons_zero]
    apply quiet_get rfl
    · intro w' hC
      go_simp <;> rfl
    simp only [Act.put, List.setIfInBounds_toArray, List.set_cons_succ, List.set_cons_zero]
    apply quiet_get rfl
    · intro w' hC
      go_simp <;> rfl
    simp only [Act.put, List.setIfInBounds_toArray, List.set_cons_succ, List.set_cons_zero]
    apply quiet_get rfl
    · intro w' hC
      go_simp <;> rfl
    simp only [Act.put, List.setIfInBounds_toArray, List.set_cons_succ, List.set_cons_zero]
    apply quiet_get rfl
    · intro w' hC
      have q1 := (HA.out.ext hC).cells
      have q2 := (HB.out.ext hC).cells
      go_simp <;> rfl
    simp only [Act.put, List.setIfInBounds_toArray, List.set_cons_succ, List.set_cons_zero]
    quiet_step ((intro hC; exact accE hC (part_any _ c b2.toNat x.d _ (hc.mono (HE.out.trans hC)) hr0 hr1 hxd)))
    rw [D2.out]
    apply quiet_get rfl
    · intro w' hC
      go_simp <;> rfl
    simp only [Act.put, List.setIfInBounds_toArray, List.set_cons_succ, List.set_cons_zero]
    apply quiet_get rfl
    · intro w' hC
      go_simp <;> rfl
    simp only [Act.put, List.setIfInBounds_toArray, List.set_cons_succ, List.set_cons_zero]
    refine wpQuiet_nil ?_
    intro w' hC
    go_wp2_with fail
    go_ret
    exact ⟨rfl, HE.out.trans hC⟩
  · skip
    apply quiet_get rfl
    · intro w' hC
      go_simp <;> rfl
    simp only [Act.put, List.setIfInBounds_toArray, List.set_cons_succ, List.set_cons_zero]
    apply quiet_get rfl
    · intro w' hC
      go_simp <;> rfl
    simp only [Act.put, List.setIfInBounds_toArray, List.set_cons_succ, List.set_cons_zero]
    apply quiet_get rfl
    · intro w' hC
      go_simp <;> rfl
    simp only [Act.put, List.setIfInBounds_toArray, List.set_cons_succ, List.set_cons_zero]
    apply quiet_get rfl
    · intro w' hC
      have q1 := (HA.out.ext hC).cells
      have q2 := (HB.out.ext hC).cells
      go_simp <;> rfl
    simp only [Act.put, List.setIfInBounds_toArray, List.set_cons_succ, List.set_cons_zero]
    apply quiet_get rfl
    · intro w' hC
      go_simp <;> rfl
    simp only [Act.put, List.setIfInBounds_toArray, List.set_cons_succ, List.set_cons_zero]
    apply quiet_get rfl
    · intro w' hC
      go_simp <;> rfl
    simp only [Act.put, List.setIfInBounds_toArray, List.set_cons_succ, List.set_cons_zero]
    apply quiet_get rfl
    · intro w' hC
      go_simp <;> rfl
    simp only [Act.put, List.setIfInBounds_toArray, List.set_cons_succ, List.set_cons_zero]
    apply quiet_get rfl
    · intro w' hC
      have q1 := (HA.out.ext hC).cells
      have q2 := (HB.out.ext hC).cells
      go_simp <;> rfl
    simp only [Act.put, List.setIfInBounds_toArray, List.set_cons_succ, List.set_cons_zero]
    quiet_step ((intro hC; exact accE hC (part_any _ c b0.toNat x.b _ (hc.mono (HE.out.trans hC)) hr0 hr1 hxb)))
    rw [D0.out]
    apply quiet_get rfl
    · intro w' hC
      go_simp <;> rfl
    simp only [Act.put, List.setIfInBounds_toArray, List.set_cons_succ, List.set_cons_zero]
    apply quiet_get rfl
    · intro w' hC
      go_simp <;> rfl
    simp only [Act.put, List.setIfInBounds_toArray, List.set_cons_succ, List.set_cons_zero]
    apply quiet_get rfl
    · intro w' hC
      have q1 := (HA.out.ext hC).cells
      have q2 := (HB.out.ext hC).cells
      go_simp <;> rfl
    simp only [Act.put, List.setIfInBounds_toArray, List.set_cons_succ, List.set_cons_zero]
    apply quiet_get rfl
    · intro w' hC
      go_simp <;> rfl
    simp only [Act.put, List.setIfInBounds_toArray, List.set_cons_succ, List.set_cons_zero]
    apply quiet_get rfl
    · intro w' hC
      go_simp <;> rfl
    simp only [Act.put, List.setIfInBounds_toArray, List.set_cons_succ, List.set_cons_zero]
    apply quiet_get rfl
    · intro w' hC
      go_simp <;> rfl
    simp only [Act.put, List.setIfInBounds_toArray, List.set_cons_succ, List.set_cons_zero]
    apply quiet_get rfl
    · intro w' hC
      have q1 := (HA.out.ext hC).cells
      have q2 := (HB.out.ext hC).cells
      go_simp <;> rfl
    simp only [Act.put, List.setIfInBounds_toArray, List.set_cons_succ, List.set_cons_zero]
    quiet_step ((intro hC; exact accE hC (part_any _ c b1.toNat x.c _ (hc.mono (HE.out.trans hC)) hr0 hr1 hxc)))
    rw [D1.out]
    apply quiet_get rfl
    · intro w' hC
      go_simp <;> rfl
    simp only [Act.put, List.setIfInBounds_toArray, List.set_cons_succ, List.set_cons_zero]
    apply quiet_get rfl
    · intro w' hC
      go_simp <;> rfl
    simp only [Act.put, List.setIfInBounds_toArray, List.set_cons_succ, List.set_cons_zero]
    apply quiet_get rfl
    · intro w' hC
      have q1 := (HA.out.ext hC).cells
      have q2 := (HB.out.ext hC).cells
      go_simp <;> rfl
    simp only [Act.put, List.setIfInBounds_toArray, List.set_cons_succ, List.set_cons_zero]
    apply quiet_get rfl
    · intro w' hC
      go_simp <;> rfl
    simp only [Act.put, List.setIfInBounds_toArray, List.set_cons_succ, List.set_cons_zero]
    apply quiet_get rfl
    · intro w' hC
      go_simp <;> rfl
    simp only [Act.put, List.setIfInBounds_toArray, List.set_cons_succ, List.set_cons_zero]
    apply quiet_get rfl
    · intro w' hC
      go_simp <;> rfl
    simp only [Act.put, List.setIfInBounds_toArray, List.set_cons_succ, List.set_cons_zero]
    apply quiet_get rfl
    · intro w' hC
      have q1 := (HA.out.ext hC).cells
      have q2 := (HB.out.ext hC).cells
      go_simp <;> rfl
    simp only [Act.put, List.setIfInBounds_toArray, List.set_cons_succ, List.set_cons_zero]
    quiet_step ((intro hC; exact accE hC (part_any _ c b2.toNat x.d _ (hc.mono (HE.out.trans hC)) hr0 hr1 hxd)))
    rw [D2.out]
    apply quiet_get rfl
    · intro w' hC
      go_simp <;> rfl
    simp only [Act.put, List.setIfInBounds_toArray, List.set_cons_succ, List.set_cons_zero]
    apply quiet_get rfl
    · intro w' hC
      go_simp <;> rfl
    simp only [Act.put, List.setIfInBounds_toArray, List.set_cons_succ, List.set_cons_zero]
    refine wpQuiet_nil ?_
    intro w' hC
    go_wp2_with fail
    go_ret
    exact ⟨rfl, HE.out.trans hC⟩

set_option maxHeartbeats 1000000 in
set_option maxRecDepth 100000 in
theorem ins_none (c : CodeD) (x : I4) (v : Value) (w : World) (hc : IsCode w v c) (hp : Hid (pt x.a = [])) :
    Calls Try.prog 35 #[v, insV x] w fun e w' => e = .returned (.bool false) ∧ Ext w w' := by
  obtain ⟨A1, A2, A3, A4, n1, n2, n3, n4, c1, c2, c3, c4, rfl⟩ := hc.form
  unfold insV
  have HE : Hid (Ext w ((w.alloc (.cells #[.string c.name, .int .i64 c.kind, .int .i64 c.length, .int .i64 c.regs, .slice A1 n1 c1, .slice A2 n2 c2, .slice A3 n3 c3, .slice A4 n4 c4] 31)).alloc (.cells #[.int .i64 x.a, .int .i64 x.b, .int .i64 x.c, .int .i64 x.d] 42))) := Lib.hid (((Ext.refl w).alloc _).alloc _)
  go_enter Try.func35, Try.ntmps35
  go_wp2_with fail
  refine (accE HE.out (parts_any _ _)).mono ?_
  rintro e w1 ⟨rfl, hb⟩
  rw [hp.out]
  clear HE
  have HE := Lib.hid hb
  clear hb hp
  go_wp2_with fail
  refine wp_region_quiet (C := fun w' => Ext w1 w') (by kernel_rfl) (by kernel_rfl) (Ext.refl w1).drew ?_
  simp only []
  apply quiet_get rfl
  · intro w' hC
    go_simp <;> rfl
  simp only [Act.put, List.setIfInBounds_toArray, List.set_cons_succ, List.set_cons_zero]
  apply quiet_get rfl
  · intro w' hC
    go_simp <;> rfl
  simp only [Act.put, List.setIfInBounds_toArray, List.set_cons_succ, List.set_cons_zero]
  apply quiet_get rfl
  · intro w' hC
    go_simp <;> rfl
  simp only [Act.put, List.setIfInBounds_toArray, List.set_cons_succ, List.set_cons_zero]
  refine quiet_skip rfl ?_
  simp only [Act.put, List.setIfInBounds_toArray, List.set_cons_succ, List.set_cons_zero]
  refine quiet_skip rfl ?_
  simp only [Act.put, List.setIfInBounds_toArray, List.set_cons_succ, List.set_cons_zero]
  refine quiet_skip rfl ?_
  simp only [Act.put, List.setIfInBounds_toArray, List.set_cons_succ, List.set_cons_zero]
  refine quiet_skip rfl ?_
  simp only [Act.put, List.setIfInBounds_toArray, List.set_cons_succ, List.set_cons_zero]
  refine quiet_skip rfl ?_
  simp only [Act.put, List.setIfInBounds_toArray, List.set_cons_succ, List.set_cons_zero]
  refine quiet_skip rfl ?_
  simp only [Act.put, List.setIfInBounds_toArray, List.set_cons_succ, List.set_cons_zero]
  apply quiet_get rfl
  · intro w' hC
    go_simp <;> rfl
  simp only [Act.put, List.setIfInBounds_toArray, List.set_cons_succ, List.set_cons_zero]
  apply quiet_get rfl
  · intro w' hC
    go_simp <;> rfl
  simp only [Act.put, List.setIfInBounds_toArray, List.set_cons_succ, List.set_cons_zero]
  refine quiet_skip rfl ?_
  simp only [Act.put, List.setIfInBounds_toArray, List.set_cons_succ, List.set_cons_zero]
  refine quiet_skip rfl ?_
  simp only [Act.put, List.setIfInBounds_toArray, List.set_cons_succ, List.set_cons_zero]
  refine quiet_skip rfl ?_
  simp only [Act.put, List.setIfInBounds_toArray, List.set_cons_succ, List.set_cons_zero]
  refine quiet_skip rfl ?_
  simp only [Act.put, List.setIfInBounds_toArray, List.set_cons_succ, List.set_cons_zero]
  refine quiet_skip rfl ?_
  simp only [Act.put, List.setIfInBounds_toArray, List.set_cons_succ, List.set_cons_zero]
  refine quiet_skip rfl ?_
  simp only [Act.put, List.setIfInBounds_toArray, List.set_cons_succ, List.set_cons_zero]
  apply quiet_get rfl
  · intro w' hC
    go_simp <;> rfl
  simp only [Act.put, List.setIfInBounds_toArray, List.set_cons_succ, List.set_cons_zero]
  apply quiet_get rfl
  · intro w' hC
    go_simp <;> rfl
  simp only [Act.put, List.setIfInBounds_toArray, List.set_cons_succ, List.set_cons_zero]
  refine quiet_skip rfl ?_
  simp only [Act.put, List.setIfInBounds_toArray, List.set_cons_succ, List.set_cons_zero]
  refine quiet_skip rfl ?_
  simp only [Act.put, List.setIfInBounds_toArray, List.set_cons_succ, List.set_cons_zero]
  refine quiet_skip rfl ?_
  simp only [Act.put, List.setIfInBounds_toArray, List.set_cons_succ, List.set_cons_zero]
  refine quiet_skip rfl ?_
  simp only [Act.put, List.setIfInBounds_toArray, List.set_cons_succ, List.set_cons_zero]
  refine quiet_skip rfl ?_
  simp only [Act.put, List.setIfInBounds_toArray, List.set_cons_succ, List.set_cons_zero]
  refine quiet_skip rfl ?_
  simp only [Act.put, List.setIfInBounds_toArray, List.set_cons_succ, List.set_cons_zero]
  apply quiet_get rfl
  · intro w' hC
    go_simp <;> rfl
  simp only [Act.put, List.setIfInBounds_toArray, List.set_cons_succ, List.set_cons_zero]
  apply quiet_get rfl
  · intro w' hC
    go_simp <;> rfl
  simp only [Act.put, List.setIfInBounds_toArray, List.set_cons_succ, List.set_cons_zero]
  refine wpQuiet_nil ?_
  intro w' hC
  go_wp2_with fail
  go_ret
  exact ⟨rfl, HE.out.trans hC⟩

theorem ins_any (c : CodeD) (x : I4) (v : Value) (w : World) (hc : IsCode w v c) (hr0 : 0 ≤ c.regs) (hr1 : c.regs ≤ 4096) (hxb : x.b ≤ 9223372036854775807) (hxc : x.c ≤ 9223372036854775807) (hxd : x.d ≤ 9223372036854775807) :
    Calls Try.prog 35 #[v, insV x] w fun e w' => e = .returned (.bool (insB c x)) ∧ Ext w w' := by
  rcases pt_three x.a with hp | ⟨b0, b1, b2, hp⟩
  · have e : insB c x = false := by unfold insB; rw [hp]
    rw [e]
    exact ins_none c x v w hc (Lib.hid hp)
  · have e : insB c x = (partB c b0.toNat x.b && partB c b1.toNat x.c && partB c b2.toNat x.d) := by unfold insB; rw [hp]
    rw [e]
    exact ins_core c x v w hc hr0 hr1 hxb hxc hxd b0 b1 b2 (Lib.hid hp) _ _ _ (Lib.hid rfl) (Lib.hid rfl) (Lib.hid rfl)
end Go.Proofs.Ytagdompikjhnoaa
