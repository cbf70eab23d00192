/- part of package code: what it answers, sign by sign. -/
import Derived.Test.YtagdompikjhnoaaKeyWalk
namespace Go.Proofs.Ytagdompikjhnoaa
open Go.RowKit

def inB (n lo hi : Int) : Bool := decide (lo ≤ n) && decide (n ≤ hi)
def kindIs (l : List V3) (n k : Int) : Bool := match l[n.toNat]? with
  | some v => v.k == k
  | none => false
def partB (c : CodeD) (g : Int) (n : Int) : Bool :=
  if g = 114 then inB n 0 (c.regs - 1) else
  if g = 100 then inB n 0 (c.regs - 2) else
  if g = 113 then (decide (0 ≤ n) && decide (n / 2 < c.regs)) else
  if g = 116 then (decide (0 ≤ n) && decide (n / 4 < c.regs) && decide (n % 4 ≤ 2)) else
  if g = 112 then inB n 0 ((c.pool.length : Int) - 1) else
  if g = 111 then (inB n 0 ((c.pool.length : Int) - 1) && kindIs c.pool n 5) else
  if g = 107 then inB n 0 ((c.keys.length : Int) - 1) else
  if g = 103 then (inB n 0 ((c.keys.length : Int) - 1) && kindIs c.keys n 1) else
  if g = 102 then inB n 0 4096 else
  if g = 106 then inB n 0 ((c.ins.length : Int) - 1) else
  if g = 110 then inB n 0 65536 else
  if g = 97 then inB n (-1) 1024 else
  if g = 98 then inB n 0 1 else
  decide (n = 0)

theorem in_any (n lo hi : Int) (w : World) : Calls Try.prog 28 #[.int .i64 n, .int .i64 lo, .int .i64 hi] w fun e w' => e = .returned (.bool (inB n lo hi)) ∧ w' = w := by
  go_enter Try.func28, Try.ntmps28
  go_wp2
  all_goals
    go_ret
    refine ⟨rb ?_, rfl⟩
    simp_all [inB]
  all_goals (intros; omega)

set_option maxHeartbeats 2000000 in
set_option maxRecDepth 100000 in
theorem part_114 (v : Value) (c : CodeD) (n : Int) (w : World) (h : IsCode w v c) (hr0 : 0 ≤ c.regs) (hr1 : c.regs ≤ 4096) :
    Calls Try.prog 44 #[v, .int .u8 114, .int .i64 n] w fun e w' => e = .returned (.bool (inB n 0 (c.regs - 1))) ∧ Ext w w' := by
  obtain ⟨vi, vp, vk, vg, rfl, h1, h2, h3, h4⟩ := h
  obtain ⟨A1, c1, rfl, hc1, hm1, hr1'⟩ := h1
  obtain ⟨A2, c2, rfl, hc2, hm2, hr2'⟩ := h2
  obtain ⟨A3, c3, rfl, hc3, hm3, hr3'⟩ := h3
  obtain ⟨A4, c4, rfl, hc4, hm4, hr4'⟩ := h4
  clear hr1' hr2' hr3' hr4'
  go_enter Try.func44, Try.ntmps44
  go_wp2_with (go_at_call 28; refine (in_any _ _ _ _).mono ?_; rintro e w1 ⟨rfl, rfl⟩)
  go_ret
  exact ⟨rfl, (Ext.refl w).alloc _⟩

set_option maxHeartbeats 2000000 in
set_option maxRecDepth 100000 in
theorem part_100 (v : Value) (c : CodeD) (n : Int) (w : World) (h : IsCode w v c) (hr0 : 0 ≤ c.regs) (hr1 : c.regs ≤ 4096) :
    Calls Try.prog 44 #[v, .int .u8 100, .int .i64 n] w fun e w' => e = .returned (.bool (inB n 0 (c.regs - 2))) ∧ Ext w w' := by
  obtain ⟨vi, vp, vk, vg, rfl, h1, h2, h3, h4⟩ := h
  obtain ⟨A1, c1, rfl, hc1, hm1, hr1'⟩ := h1
  obtain ⟨A2, c2, rfl, hc2, hm2, hr2'⟩ := h2
  obtain ⟨A3, c3, rfl, hc3, hm3, hr3'⟩ := h3
  obtain ⟨A4, c4, rfl, hc4, hm4, hr4'⟩ := h4
  clear hr1' hr2' hr3' hr4'
  go_enter Try.func44, Try.ntmps44
  go_wp2_with (go_at_call 28; refine (in_any _ _ _ _).mono ?_; rintro e w1 ⟨rfl, rfl⟩)
  go_ret
  exact ⟨rfl, (Ext.refl w).alloc _⟩

set_option maxHeartbeats 2000000 in
set_option maxRecDepth 100000 in
theorem part_113 (v : Value) (c : CodeD) (n : Int) (w : World) (h : IsCode w v c) (hn : n ≤ 9223372036854775807) :
    Calls Try.prog 44 #[v, .int .u8 113, .int .i64 n] w fun e w' => e = .returned (.bool ((decide (0 ≤ n) && decide (n / 2 < c.regs)))) ∧ Ext w w' := by
  obtain ⟨vi, vp, vk, vg, rfl, h1, h2, h3, h4⟩ := h
  obtain ⟨A1, c1, rfl, hc1, hm1, hr1'⟩ := h1
  obtain ⟨A2, c2, rfl, hc2, hm2, hr2'⟩ := h2
  obtain ⟨A3, c3, rfl, hc3, hm3, hr3'⟩ := h3
  obtain ⟨A4, c4, rfl, hc4, hm4, hr4'⟩ := h4
  clear hr1' hr2' hr3' hr4'
  go_enter Try.func44, Try.ntmps44
  go_wp2
  all_goals
    go_ret
    refine ⟨rb ?_, (Ext.refl w).alloc _⟩
    simp_all
  all_goals (intros; omega)

set_option maxHeartbeats 2000000 in
set_option maxRecDepth 100000 in
theorem part_116 (v : Value) (c : CodeD) (n : Int) (w : World) (h : IsCode w v c) (hn : n ≤ 9223372036854775807) :
    Calls Try.prog 44 #[v, .int .u8 116, .int .i64 n] w fun e w' => e = .returned (.bool ((decide (0 ≤ n) && decide (n / 4 < c.regs) && decide (n % 4 ≤ 2)))) ∧ Ext w w' := by
  obtain ⟨vi, vp, vk, vg, rfl, h1, h2, h3, h4⟩ := h
  obtain ⟨A1, c1, rfl, hc1, hm1, hr1'⟩ := h1
  obtain ⟨A2, c2, rfl, hc2, hm2, hr2'⟩ := h2
  obtain ⟨A3, c3, rfl, hc3, hm3, hr3'⟩ := h3
  obtain ⟨A4, c4, rfl, hc4, hm4, hr4'⟩ := h4
  clear hr1' hr2' hr3' hr4'
  go_enter Try.func44, Try.ntmps44
  go_wp2
  all_goals
    go_ret
    refine ⟨rb ?_, (Ext.refl w).alloc _⟩
    simp_all
  all_goals (intros; omega)

set_option maxHeartbeats 2000000 in
set_option maxRecDepth 100000 in
theorem part_112 (v : Value) (c : CodeD) (n : Int) (w : World) (h : IsCode w v c) :
    Calls Try.prog 44 #[v, .int .u8 112, .int .i64 n] w fun e w' => e = .returned (.bool (inB n 0 ((c.pool.length : Int) - 1))) ∧ Ext w w' := by
  obtain ⟨vi, vp, vk, vg, rfl, h1, h2, h3, h4⟩ := h
  obtain ⟨A1, c1, rfl, hc1, hm1, hr1'⟩ := h1
  obtain ⟨A2, c2, rfl, hc2, hm2, hr2'⟩ := h2
  obtain ⟨A3, c3, rfl, hc3, hm3, hr3'⟩ := h3
  obtain ⟨A4, c4, rfl, hc4, hm4, hr4'⟩ := h4
  clear hr1' hr2' hr3' hr4'
  go_enter Try.func44, Try.ntmps44
  go_wp2_with (go_at_call 28; refine (in_any _ _ _ _).mono ?_; rintro e w1 ⟨rfl, rfl⟩)
  go_ret
  exact ⟨rfl, (Ext.refl w).alloc _⟩

set_option maxHeartbeats 2000000 in
set_option maxRecDepth 100000 in
theorem part_111 (v : Value) (c : CodeD) (n : Int) (w : World) (h : IsCode w v c) :
    Calls Try.prog 44 #[v, .int .u8 111, .int .i64 n] w fun e w' => e = .returned (.bool ((inB n 0 ((c.pool.length : Int) - 1) && kindIs c.pool n 5))) ∧ Ext w w' := by
  obtain ⟨vi, vp, vk, vg, rfl, h1, h2, h3, h4⟩ := h
  obtain ⟨A1, c1, rfl, hc1, hm1, hr1'⟩ := h1
  obtain ⟨A2, c2, rfl, hc2, hm2, hr2'⟩ := h2
  obtain ⟨A3, c3, rfl, hc3, hm3, hr3'⟩ := h3
  obtain ⟨A4, c4, rfl, hc4, hm4, hr4'⟩ := h4
  by_cases hin : 0 ≤ n ∧ n < c.pool.length
  · obtain ⟨m, rfl⟩ := Int.eq_ofNat_of_zero_le hin.1
    have hlt : m < c.pool.length := by omega
    obtain ⟨b, o, rfl, hb, hx⟩ := hr2' (by omega)
    have hcell : w.cell? ⟨b, o + m * 3, none⟩ = some (.int .i64 c.pool[m].k) := hx m _ (List.getElem?_eq_getElem hlt) 0 _ rfl
    have HK := Lib.hid (show kindIs c.pool (m : Int) 5 = (c.pool[m].k == 5) by simp [kindIs, List.getElem?_eq_getElem hlt])
    have HI := Lib.hid (show inB (m : Int) 0 ((c.pool.length : Int) - 1) = true by simp [inB]; omega)
    clear hr1' hr2' hr3' hr4' hx
    go_enter Try.func44, Try.ntmps44
    go_wp2_with (go_at_call 28; refine (in_any _ _ _ _).mono ?_; rintro e w1 ⟨rfl, rfl⟩; rw [HI.out])
    all_goals
      go_ret
      refine ⟨rb ?_, (Ext.refl w).alloc _⟩
      rw [HI.out, HK.out]
      simp
  · have HI := Lib.hid (show inB n 0 ((c.pool.length : Int) - 1) = false by simp [inB]; omega)
    clear hr1' hr2' hr3' hr4'
    go_enter Try.func44, Try.ntmps44
    go_wp2_with (go_at_call 28; refine (in_any _ _ _ _).mono ?_; rintro e w1 ⟨rfl, rfl⟩; rw [HI.out])
    all_goals
      go_ret
      refine ⟨rb ?_, (Ext.refl w).alloc _⟩
      rw [HI.out]
      rfl

set_option maxHeartbeats 2000000 in
set_option maxRecDepth 100000 in
theorem part_107 (v : Value) (c : CodeD) (n : Int) (w : World) (h : IsCode w v c) :
    Calls Try.prog 44 #[v, .int .u8 107, .int .i64 n] w fun e w' => e = .returned (.bool (inB n 0 ((c.keys.length : Int) - 1))) ∧ Ext w w' := by
  obtain ⟨vi, vp, vk, vg, rfl, h1, h2, h3, h4⟩ := h
  obtain ⟨A1, c1, rfl, hc1, hm1, hr1'⟩ := h1
  obtain ⟨A2, c2, rfl, hc2, hm2, hr2'⟩ := h2
  obtain ⟨A3, c3, rfl, hc3, hm3, hr3'⟩ := h3
  obtain ⟨A4, c4, rfl, hc4, hm4, hr4'⟩ := h4
  clear hr1' hr2' hr3' hr4'
  go_enter Try.func44, Try.ntmps44
  go_wp2_with (go_at_call 28; refine (in_any _ _ _ _).mono ?_; rintro e w1 ⟨rfl, rfl⟩)
  go_ret
  exact ⟨rfl, (Ext.refl w).alloc _⟩

set_option maxHeartbeats 2000000 in
set_option maxRecDepth 100000 in
theorem part_103 (v : Value) (c : CodeD) (n : Int) (w : World) (h : IsCode w v c) :
    Calls Try.prog 44 #[v, .int .u8 103, .int .i64 n] w fun e w' => e = .returned (.bool ((inB n 0 ((c.keys.length : Int) - 1) && kindIs c.keys n 1))) ∧ Ext w w' := by
  obtain ⟨vi, vp, vk, vg, rfl, h1, h2, h3, h4⟩ := h
  obtain ⟨A1, c1, rfl, hc1, hm1, hr1'⟩ := h1
  obtain ⟨A2, c2, rfl, hc2, hm2, hr2'⟩ := h2
  obtain ⟨A3, c3, rfl, hc3, hm3, hr3'⟩ := h3
  obtain ⟨A4, c4, rfl, hc4, hm4, hr4'⟩ := h4
  by_cases hin : 0 ≤ n ∧ n < c.keys.length
  · obtain ⟨m, rfl⟩ := Int.eq_ofNat_of_zero_le hin.1
    have hlt : m < c.keys.length := by omega
    obtain ⟨b, o, rfl, hb, hx⟩ := hr3' (by omega)
    have hcell : w.cell? ⟨b, o + m * 3, none⟩ = some (.int .i64 c.keys[m].k) := hx m _ (List.getElem?_eq_getElem hlt) 0 _ rfl
    have HK := Lib.hid (show kindIs c.keys (m : Int) 1 = (c.keys[m].k == 1) by simp [kindIs, List.getElem?_eq_getElem hlt])
    have HI := Lib.hid (show inB (m : Int) 0 ((c.keys.length : Int) - 1) = true by simp [inB]; omega)
    clear hr1' hr2' hr3' hr4' hx
    go_enter Try.func44, Try.ntmps44
    go_wp2_with (go_at_call 28; refine (in_any _ _ _ _).mono ?_; rintro e w1 ⟨rfl, rfl⟩; rw [HI.out])
    all_goals
      go_ret
      refine ⟨rb ?_, (Ext.refl w).alloc _⟩
      rw [HI.out, HK.out]
      simp
  · have HI := Lib.hid (show inB n 0 ((c.keys.length : Int) - 1) = false by simp [inB]; omega)
    clear hr1' hr2' hr3' hr4'
    go_enter Try.func44, Try.ntmps44
    go_wp2_with (go_at_call 28; refine (in_any _ _ _ _).mono ?_; rintro e w1 ⟨rfl, rfl⟩; rw [HI.out])
    all_goals
      go_ret
      refine ⟨rb ?_, (Ext.refl w).alloc _⟩
      rw [HI.out]
      rfl

set_option maxHeartbeats 2000000 in
set_option maxRecDepth 100000 in
theorem part_102 (v : Value) (c : CodeD) (n : Int) (w : World) (h : IsCode w v c) :
    Calls Try.prog 44 #[v, .int .u8 102, .int .i64 n] w fun e w' => e = .returned (.bool (inB n 0 4096)) ∧ Ext w w' := by
  obtain ⟨vi, vp, vk, vg, rfl, h1, h2, h3, h4⟩ := h
  obtain ⟨A1, c1, rfl, hc1, hm1, hr1'⟩ := h1
  obtain ⟨A2, c2, rfl, hc2, hm2, hr2'⟩ := h2
  obtain ⟨A3, c3, rfl, hc3, hm3, hr3'⟩ := h3
  obtain ⟨A4, c4, rfl, hc4, hm4, hr4'⟩ := h4
  clear hr1' hr2' hr3' hr4'
  go_enter Try.func44, Try.ntmps44
  go_wp2_with (go_at_call 28; refine (in_any _ _ _ _).mono ?_; rintro e w1 ⟨rfl, rfl⟩)
  go_ret
  exact ⟨rfl, (Ext.refl w).alloc _⟩

set_option maxHeartbeats 2000000 in
set_option maxRecDepth 100000 in
theorem part_106 (v : Value) (c : CodeD) (n : Int) (w : World) (h : IsCode w v c) :
    Calls Try.prog 44 #[v, .int .u8 106, .int .i64 n] w fun e w' => e = .returned (.bool (inB n 0 ((c.ins.length : Int) - 1))) ∧ Ext w w' := by
  obtain ⟨vi, vp, vk, vg, rfl, h1, h2, h3, h4⟩ := h
  obtain ⟨A1, c1, rfl, hc1, hm1, hr1'⟩ := h1
  obtain ⟨A2, c2, rfl, hc2, hm2, hr2'⟩ := h2
  obtain ⟨A3, c3, rfl, hc3, hm3, hr3'⟩ := h3
  obtain ⟨A4, c4, rfl, hc4, hm4, hr4'⟩ := h4
  clear hr1' hr2' hr3' hr4'
  go_enter Try.func44, Try.ntmps44
  go_wp2_with (go_at_call 28; refine (in_any _ _ _ _).mono ?_; rintro e w1 ⟨rfl, rfl⟩)
  go_ret
  exact ⟨rfl, (Ext.refl w).alloc _⟩

set_option maxHeartbeats 2000000 in
set_option maxRecDepth 100000 in
theorem part_110 (v : Value) (c : CodeD) (n : Int) (w : World) (h : IsCode w v c) :
    Calls Try.prog 44 #[v, .int .u8 110, .int .i64 n] w fun e w' => e = .returned (.bool (inB n 0 65536)) ∧ Ext w w' := by
  obtain ⟨vi, vp, vk, vg, rfl, h1, h2, h3, h4⟩ := h
  obtain ⟨A1, c1, rfl, hc1, hm1, hr1'⟩ := h1
  obtain ⟨A2, c2, rfl, hc2, hm2, hr2'⟩ := h2
  obtain ⟨A3, c3, rfl, hc3, hm3, hr3'⟩ := h3
  obtain ⟨A4, c4, rfl, hc4, hm4, hr4'⟩ := h4
  clear hr1' hr2' hr3' hr4'
  go_enter Try.func44, Try.ntmps44
  go_wp2_with (go_at_call 28; refine (in_any _ _ _ _).mono ?_; rintro e w1 ⟨rfl, rfl⟩)
  go_ret
  exact ⟨rfl, (Ext.refl w).alloc _⟩

set_option maxHeartbeats 2000000 in
set_option maxRecDepth 100000 in
theorem part_97 (v : Value) (c : CodeD) (n : Int) (w : World) (h : IsCode w v c) :
    Calls Try.prog 44 #[v, .int .u8 97, .int .i64 n] w fun e w' => e = .returned (.bool (inB n (-1) 1024)) ∧ Ext w w' := by
  obtain ⟨vi, vp, vk, vg, rfl, h1, h2, h3, h4⟩ := h
  obtain ⟨A1, c1, rfl, hc1, hm1, hr1'⟩ := h1
  obtain ⟨A2, c2, rfl, hc2, hm2, hr2'⟩ := h2
  obtain ⟨A3, c3, rfl, hc3, hm3, hr3'⟩ := h3
  obtain ⟨A4, c4, rfl, hc4, hm4, hr4'⟩ := h4
  clear hr1' hr2' hr3' hr4'
  go_enter Try.func44, Try.ntmps44
  go_wp2_with (go_at_call 28; refine (in_any _ _ _ _).mono ?_; rintro e w1 ⟨rfl, rfl⟩)
  go_ret
  exact ⟨rfl, (Ext.refl w).alloc _⟩

set_option maxHeartbeats 2000000 in
set_option maxRecDepth 100000 in
theorem part_98 (v : Value) (c : CodeD) (n : Int) (w : World) (h : IsCode w v c) :
    Calls Try.prog 44 #[v, .int .u8 98, .int .i64 n] w fun e w' => e = .returned (.bool (inB n 0 1)) ∧ Ext w w' := by
  obtain ⟨vi, vp, vk, vg, rfl, h1, h2, h3, h4⟩ := h
  obtain ⟨A1, c1, rfl, hc1, hm1, hr1'⟩ := h1
  obtain ⟨A2, c2, rfl, hc2, hm2, hr2'⟩ := h2
  obtain ⟨A3, c3, rfl, hc3, hm3, hr3'⟩ := h3
  obtain ⟨A4, c4, rfl, hc4, hm4, hr4'⟩ := h4
  clear hr1' hr2' hr3' hr4'
  go_enter Try.func44, Try.ntmps44
  go_wp2_with (go_at_call 28; refine (in_any _ _ _ _).mono ?_; rintro e w1 ⟨rfl, rfl⟩)
  go_ret
  exact ⟨rfl, (Ext.refl w).alloc _⟩

set_option maxHeartbeats 2000000 in
set_option maxRecDepth 100000 in
theorem part_x (v : Value) (c : CodeD) (n : Int) (w : World) (h : IsCode w v c) (g : Int) (g114 : (g == 114) = false) (g100 : (g == 100) = false) (g113 : (g == 113) = false) (g116 : (g == 116) = false) (g112 : (g == 112) = false) (g111 : (g == 111) = false) (g107 : (g == 107) = false) (g103 : (g == 103) = false) (g102 : (g == 102) = false) (g106 : (g == 106) = false) (g110 : (g == 110) = false) (g97 : (g == 97) = false) (g98 : (g == 98) = false) :
    Calls Try.prog 44 #[v, .int .u8 g, .int .i64 n] w fun e w' => e = .returned (.bool (decide (n = 0))) ∧ Ext w w' := by
  obtain ⟨vi, vp, vk, vg, rfl, h1, h2, h3, h4⟩ := h
  obtain ⟨A1, c1, rfl, hc1, hm1, hr1'⟩ := h1
  obtain ⟨A2, c2, rfl, hc2, hm2, hr2'⟩ := h2
  obtain ⟨A3, c3, rfl, hc3, hm3, hr3'⟩ := h3
  obtain ⟨A4, c4, rfl, hc4, hm4, hr4'⟩ := h4
  clear hr1' hr2' hr3' hr4'
  go_enter Try.func44, Try.ntmps44
  go_wp2
  all_goals
    go_ret
    refine ⟨rb ?_, (Ext.refl w).alloc _⟩
    rw [Bool.eq_iff_iff]
    simp

theorem part_any (v : Value) (c : CodeD) (g n : Int) (w : World) (h : IsCode w v c) (hr0 : 0 ≤ c.regs) (hr1 : c.regs ≤ 4096) (hn : n ≤ 9223372036854775807) :
    Calls Try.prog 44 #[v, .int .u8 g, .int .i64 n] w fun e w' => e = .returned (.bool (partB c g n)) ∧ Ext w w' := by
  by_cases g114 : g = 114
  · subst g114
    exact part_114 v c n w h hr0 hr1
  by_cases g100 : g = 100
  · subst g100
    exact part_100 v c n w h hr0 hr1
  by_cases g113 : g = 113
  · subst g113
    exact part_113 v c n w h hn
  by_cases g116 : g = 116
  · subst g116
    exact part_116 v c n w h hn
  by_cases g112 : g = 112
  · subst g112
    exact part_112 v c n w h
  by_cases g111 : g = 111
  · subst g111
    exact part_111 v c n w h
  by_cases g107 : g = 107
  · subst g107
    exact part_107 v c n w h
  by_cases g103 : g = 103
  · subst g103
    exact part_103 v c n w h
  by_cases g102 : g = 102
  · subst g102
    exact part_102 v c n w h
  by_cases g106 : g = 106
  · subst g106
    exact part_106 v c n w h
  by_cases g110 : g = 110
  · subst g110
    exact part_110 v c n w h
  by_cases g97 : g = 97
  · subst g97
    exact part_97 v c n w h
  by_cases g98 : g = 98
  · subst g98
    exact part_98 v c n w h
  have e : partB c g n = decide (n = 0) := by simp only [partB, g114, g100, g113, g116, g112, g111, g107, g103, g102, g106, g110, g97, g98, if_false]
  rw [e]
  exact part_x v c n w h g (by simpa using g114) (by simpa using g100) (by simpa using g113) (by simpa using g116) (by simpa using g112) (by simpa using g111) (by simpa using g107) (by simpa using g103) (by simpa using g102) (by simpa using g106) (by simpa using g110) (by simpa using g97) (by simpa using g98)
end Go.Proofs.Ytagdompikjhnoaa
