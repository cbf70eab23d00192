/- CodeMore: the walk. -/
import Derived.Test.YtagdompikjhnoaaMore2
namespace Go.Proofs.Ytagdompikjhnoaa
open Go.RowKit

theorem list58 (t : List Value) (h : t.length = 58) : ∃ x0 x1 x2 x3 x4 x5 x6 x7 x8 x9 x10 x11 x12 x13 x14 x15 x16 x17 x18 x19 x20 x21 x22 x23 x24 x25 x26 x27 x28 x29 x30 x31 x32 x33 x34 x35 x36 x37 x38 x39 x40 x41 x42 x43 x44 x45 x46 x47 x48 x49 x50 x51 x52 x53 x54 x55 x56 x57, t = [x0, x1, x2, x3, x4, x5, x6, x7, x8, x9, x10, x11, x12, x13, x14, x15, x16, x17, x18, x19, x20, x21, x22, x23, x24, x25, x26, x27, x28, x29, x30, x31, x32, x33, x34, x35, x36, x37, x38, x39, x40, x41, x42, x43, x44, x45, x46, x47, x48, x49, x50, x51, x52, x53, x54, x55, x56, x57] := by
  obtain ⟨x0, t0, e0, h0⟩ := cons_of_len h
  obtain ⟨x1, t1, e1, h1⟩ := cons_of_len h0
  obtain ⟨x2, t2, e2, h2⟩ := cons_of_len h1
  obtain ⟨x3, t3, e3, h3⟩ := cons_of_len h2
  obtain ⟨x4, t4, e4, h4⟩ := cons_of_len h3
  obtain ⟨x5, t5, e5, h5⟩ := cons_of_len h4
  obtain ⟨x6, t6, e6, h6⟩ := cons_of_len h5
  obtain ⟨x7, t7, e7, h7⟩ := cons_of_len h6
  obtain ⟨x8, t8, e8, h8⟩ := cons_of_len h7
  obtain ⟨x9, t9, e9, h9⟩ := cons_of_len h8
  obtain ⟨x10, t10, e10, h10⟩ := cons_of_len h9
  obtain ⟨x11, t11, e11, h11⟩ := cons_of_len h10
  obtain ⟨x12, t12, e12, h12⟩ := cons_of_len h11
  obtain ⟨x13, t13, e13, h13⟩ := cons_of_len h12
  obtain ⟨x14, t14, e14, h14⟩ := cons_of_len h13
  obtain ⟨x15, t15, e15, h15⟩ := cons_of_len h14
  obtain ⟨x16, t16, e16, h16⟩ := cons_of_len h15
  obtain ⟨x17, t17, e17, h17⟩ := cons_of_len h16
  obtain ⟨x18, t18, e18, h18⟩ := cons_of_len h17
  obtain ⟨x19, t19, e19, h19⟩ := cons_of_len h18
  obtain ⟨x20, t20, e20, h20⟩ := cons_of_len h19
  obtain ⟨x21, t21, e21, h21⟩ := cons_of_len h20
  obtain ⟨x22, t22, e22, h22⟩ := cons_of_len h21
  obtain ⟨x23, t23, e23, h23⟩ := cons_of_len h22
  obtain ⟨x24, t24, e24, h24⟩ := cons_of_len h23
  obtain ⟨x25, t25, e25, h25⟩ := cons_of_len h24
  obtain ⟨x26, t26, e26, h26⟩ := cons_of_len h25
  obtain ⟨x27, t27, e27, h27⟩ := cons_of_len h26
  obtain ⟨x28, t28, e28, h28⟩ := cons_of_len h27
  obtain ⟨x29, t29, e29, h29⟩ := cons_of_len h28
  obtain ⟨x30, t30, e30, h30⟩ := cons_of_len h29
  obtain ⟨x31, t31, e31, h31⟩ := cons_of_len h30
  obtain ⟨x32, t32, e32, h32⟩ := cons_of_len h31
  obtain ⟨x33, t33, e33, h33⟩ := cons_of_len h32
  obtain ⟨x34, t34, e34, h34⟩ := cons_of_len h33
  obtain ⟨x35, t35, e35, h35⟩ := cons_of_len h34
  obtain ⟨x36, t36, e36, h36⟩ := cons_of_len h35
  obtain ⟨x37, t37, e37, h37⟩ := cons_of_len h36
  obtain ⟨x38, t38, e38, h38⟩ := cons_of_len h37
  obtain ⟨x39, t39, e39, h39⟩ := cons_of_len h38
  obtain ⟨x40, t40, e40, h40⟩ := cons_of_len h39
  obtain ⟨x41, t41, e41, h41⟩ := cons_of_len h40
  obtain ⟨x42, t42, e42, h42⟩ := cons_of_len h41
  obtain ⟨x43, t43, e43, h43⟩ := cons_of_len h42
  obtain ⟨x44, t44, e44, h44⟩ := cons_of_len h43
  obtain ⟨x45, t45, e45, h45⟩ := cons_of_len h44
  obtain ⟨x46, t46, e46, h46⟩ := cons_of_len h45
  obtain ⟨x47, t47, e47, h47⟩ := cons_of_len h46
  obtain ⟨x48, t48, e48, h48⟩ := cons_of_len h47
  obtain ⟨x49, t49, e49, h49⟩ := cons_of_len h48
  obtain ⟨x50, t50, e50, h50⟩ := cons_of_len h49
  obtain ⟨x51, t51, e51, h51⟩ := cons_of_len h50
  obtain ⟨x52, t52, e52, h52⟩ := cons_of_len h51
  obtain ⟨x53, t53, e53, h53⟩ := cons_of_len h52
  obtain ⟨x54, t54, e54, h54⟩ := cons_of_len h53
  obtain ⟨x55, t55, e55, h55⟩ := cons_of_len h54
  obtain ⟨x56, t56, e56, h56⟩ := cons_of_len h55
  obtain ⟨x57, t57, e57, h57⟩ := cons_of_len h56
  have e := nil_of_len h57
  subst e0 e1 e2 e3 e4 e5 e6 e7 e8 e9 e10 e11 e12 e13 e14 e15 e16 e17 e18 e19 e20 e21 e22 e23 e24 e25 e26 e27 e28 e29 e30 e31 e32 e33 e34 e35 e36 e37 e38 e39 e40 e41 e42 e43 e44 e45 e46 e47 e48 e49 e50 e51 e52 e53 e54 e55 e56 e57 e
  exact ⟨_, _, _, _, _, _, _, _, _, _, _, _, _, _, _, _, _, _, _, _, _, _, _, _, _, _, _, _, _, _, _, _, _, _, _, _, _, _, _, _, _, _, _, _, _, _, _, _, _, _, _, _, _, _, _, _, _, _, rfl⟩

/-- what each operation of the last region yields -/
def RM (c d : CodeD) (rC rD : Raw) : Nat → World → Value → Prop
  | 0, _, v | 5, _, v | 13, _, v => v = .agg rD.row
  | 3, _, v | 10, _, v => v = .agg rC.row
  | 4, w, v | 6, w, v => Sl w 1 en1 v (targetsL c)
  | 11, w, v => ∃ b, v = slc b 1 ∧ SlC w (slc b 1) [c]
  | 12, w, v => ∃ b, v = .agg #[slc b 1] ∧ SlC w (slc b 1) [c]
  | 14, w, v => ∃ b, v = slc b 1 ∧ SlC w (slc b 1) [d]
  | 15, w, v => ∃ b, v = .agg #[slc b 1] ∧ SlC w (slc b 1) [d]
  | 16, _, v => v = .bool false
  | _, _, v => v = .bool true
theorem RM.mono (c d : CodeD) (rC rD : Raw) : ∀ (i : Nat) (w w' : World) (v : Value), Ext w w' → RM c d rC rD i w v → RM c d rC rD i w' v
  | 0, _, _, _, _, h | 1, _, _, _, _, h | 2, _, _, _, _, h | 3, _, _, _, _, h | 5, _, _, _, _, h | 7, _, _, _, _, h | 8, _, _, _, _, h | 9, _, _, _, _, h | 10, _, _, _, _, h | 13, _, _, _, _, h | 16, _, _, _, _, h | _ + 17, _, _, _, _, h => h
  | 4, _, _, _, hx, h | 6, _, _, _, hx, h => Sl.mono h hx
  | 11, _, _, _, hx, h | 12, _, _, _, hx, h | 14, _, _, _, hx, h | 15, _, _, _, hx, h => by obtain ⟨b, e, k⟩ := h; exact ⟨b, e, k.mono hx⟩

theorem results_more (ts : Array Value) (w : World) : (results Try.f7 ts).run Try.prog w = .ok (ts.getD 4 undef) w := by kernel_rfl
section
variable {s : Nat → Value} {w : World} {K : Value → World → Prop} {d : Option Nat} {ty : TypeId} {pos : String} {af : Array Edge} {gd : Option (Nat × Bool)}
theorem runs_not {P : Program} {x : Operand} {b : Bool} {t : TypeId} (hx : ev s x = .bool b) (hk : K (.bool (!b)) w) : Runs P ⟨d, .unOp .not t x, ty, pos, af, gd⟩ s w K := by
  unfold Runs execOp
  simp only [hx]
  exact hk
end
/-- what region 4 leaves -/
def CutM (w : World) (c : CodeD) (A2 A3 A4 : Option Addr) (c2 c3 c4 : Nat) (p : Nat) (row : Array Value) (v22 : Value) (wr : World) : Prop :=
  ∃ A k B, v22 = .slice A (c.ins.length + 1) k ∧ p < B ∧ wr.ownsRow B 42 4 v22 (c.ins ++ [nop]).length ((c.ins ++ [nop]).flatMap en4) ∧ Ext w wr ∧ Blk wr w.heap.size 31 row ∧
    Blk wr p 31 #[.string c.name, .int .i64 c.kind, .int .i64 c.length, .int .i64 c.regs, v22, .slice A2 c.pool.length c2, .slice A3 c.keys.length c3, .slice A4 c.guards.length c4]

set_option maxHeartbeats 8000000 in
set_option maxRecDepth 100000 in
theorem codeMore_walk (v : Value) (m : Int) (c : CodeD) (w : World) (h : IsCode w v c) (hin : InRange c) :
    Calls Try.prog 7 #[v, .int .i64 m] w fun e w' => e = .returned (.bool true) ∧ Ext w w' := by
  obtain ⟨i0, hi, hz0, hz1, hz2⟩ := info_parts insInfo
  have HI := Lib.hid hi
  have HZ0 := Lib.hid hz0
  have HZ1 := Lib.hid hz1
  have HZ2 := Lib.hid hz2
  clear hi hz0 hz1 hz2
  have HC := Lib.hid h
  obtain ⟨vi, vp, vk, vg, rfl, hS1, hS2, hS3, hS4⟩ := h
  have HS2 := Lib.hid hS2
  have HS3 := Lib.hid hS3
  have HS4 := Lib.hid hS4
  obtain ⟨A1, c1, rfl, hc1, hm1, hr1⟩ := hS1
  obtain ⟨A2, c2, rfl, -⟩ := hS2
  obtain ⟨A3, c3, rfl, -⟩ := hS3
  obtain ⟨A4, c4, rfl, -⟩ := hS4
  have HIN := Lib.hid hin
  clear hin
  have HE : Hid (Ext w (w.alloc (.cells #[.string c.name, .int .i64 c.kind, .int .i64 c.length, .int .i64 c.regs, .slice A1 c.ins.length c1, .slice A2 c.pool.length c2, .slice A3 c.keys.length c3, .slice A4 c.guards.length c4] 31))) := Lib.hid ((Ext.refl w).alloc _)
  have HB := Lib.hid (Blk.new w 31 #[.string c.name, .int .i64 c.kind, .int .i64 c.length, .int .i64 c.regs, .slice A1 c.ins.length c1, .slice A2 c.pool.length c2, .slice A3 c.keys.length c3, .slice A4 c.guards.length c4])
  go_enter Try.func7, Try.ntmps7
  go_wp2_with fail
  generalize w.alloc (.cells #[.string c.name, .int .i64 c.kind, .int .i64 c.length, .int .i64 c.regs, .slice A1 c.ins.length c1, .slice A2 c.pool.length c2, .slice A3 c.keys.length c3, .slice A4 c.guards.length c4] 31) = W at HE HB ⊢
  refine (small_any _ c _ (HC.out.mono HE.out)).mono ?_
  rintro e w1 ⟨q1, rfl, hsh, hx⟩
  replace HE := Lib.hid (HE.out.trans hx)
  replace HB := Lib.hid (HB.out.ext hx)
  have cB := HB.out.cells
  clear hx
  cases q1
  · go_wp2_with fail
    refine (accE HE.out (lives_any _)).mono ?_
    rintro e w2 ⟨rfl, hx⟩
    go_wp2_with fail
    go_ret
    exact ⟨rfl, hx⟩
  obtain ⟨s1, -, -, s4⟩ := hsh rfl
  clear hsh
  go_wp2_with fail
  refine (right_any _ c _ (HC.out.mono HE.out) HIN.out).mono ?_
  rintro e w2 ⟨rfl, hx⟩
  replace HE := Lib.hid (HE.out.trans hx)
  replace HB := Lib.hid (HB.out.ext hx)
  clear hx cB
  have cB := HB.out.cells
  cases hq : rightB c with
  | false =>
    clear hq
    go_wp2_with fail
    refine (accE HE.out (lives_any _)).mono ?_
    rintro e w3 ⟨rfl, hx⟩
    go_wp2_with fail
    go_ret
    exact ⟨rfl, hx⟩
  | true =>
    have HR := Lib.hid hq
    clear hq
    go_upto_region 4 with (fail)
    have HD3 := Lib.hid (Blk.new w2 31 #[.string c.name, .int .i64 c.kind, .int .i64 c.length, .int .i64 c.regs, .slice A1 c.ins.length c1, .slice A2 c.pool.length c2, .slice A3 c.keys.length c3, .slice A4 c.guards.length c4])
    have HB3 := Lib.hid (HB.out.alloc (.cells #[.string c.name, .int .i64 c.kind, .int .i64 c.length, .int .i64 c.regs, .slice A1 c.ins.length c1, .slice A2 c.pool.length c2, .slice A3 c.keys.length c3, .slice A4 c.guards.length c4] 31))
    have HE3 := Lib.hid (HE.out.alloc (.cells #[.string c.name, .int .i64 c.kind, .int .i64 c.length, .int .i64 c.regs, .slice A1 c.ins.length c1, .slice A2 c.pool.length c2, .slice A3 c.keys.length c3, .slice A4 c.guards.length c4] 31))
    have hlo := HE.out.size
    have hne : w.heap.size ≠ w2.heap.size := Nat.ne_of_lt HB.out.lt
    clear HB HE cB
    generalize w2.alloc (.cells #[.string c.name, .int .i64 c.kind, .int .i64 c.length, .int .i64 c.regs, .slice A1 c.ins.length c1, .slice A2 c.pool.length c2, .slice A3 c.keys.length c3, .slice A4 c.guards.length c4] 31) = W3 at HD3 HB3 HE3 ⊢
    go_cut [22] (fun v22 wr => CutM w c A2 A3 A4 c2 c3 c4 w2.heap.size #[.string c.name, .int .i64 c.kind, .int .i64 c.length, .int .i64 c.regs, .slice A1 c.ins.length c1, .slice A2 c.pool.length c2, .slice A3 c.keys.length c3, .slice A4 c.guards.length c4] v22 wr)
    case first =>
      have cB := HB3.out.cells
      have hlt2 := HB3.out.lt
      have hne2 : w.heap.size ≠ W3.heap.size := by omega
      by_cases h0 : c.ins.length = 0
      · have HN := Lib.hid (List.eq_nil_of_length_eq_zero h0)
        have HO5 : Hid ((W3.alloc (.cells #[] 42)).ownsRow W3.heap.size 42 4 (.slice (some ⟨W3.heap.size, 0, none⟩) 0 0) c.ins.length (c.ins.flatMap en4)) := Lib.hid (by rw [HN.out]; exact World.ownsRow_made W3 #[] 0 (Nat.le_refl _) (Nat.zero_le _) rfl)
        have HE5 := Lib.hid ((Ext.refl W3).alloc (.cells #[] 42))
        have H0 := Lib.hid h0
        clear h0 hr1
        go_wp2_with (at_builtin; refine halt_here ?_)
        intro _
        refine wpList_append_len0 rfl _ _ 26 rfl 42 i0 Try.underlying26 HI.out (some ⟨W3.heap.size, 0, none⟩) 0 0 rfl (Nat.le_refl _) ⟨A1, c1, congrArg (fun n => Value.slice A1 n c1) H0.out⟩ ?_
        intro v5 hv5
        rw [← hv5] at HO5
        clear hv5
        generalize W3.alloc (.cells #[] 42) = W5 at HO5 HE5 ⊢
        clear cB
        have cB := (HB3.out.ext HE5.out).cells
        obtain ⟨A5, k5, rfl⟩ := own_form4 HO5.out
        go_wp2_with (at_builtin; refine wpList_append_own _ rfl _ _ 26 rfl W3.heap.size 42 i0 _ 4 32 Try.underlying26 HI.out HZ0.out HZ1.out HZ2.out rfl (by decide) _ c.ins.length (c.ins.flatMap en4) rfl (HO5.out.alloc _) ⟨W5.heap.size, 0, none⟩ 1 1 (en4 nop) rfl rfl ?d1 ?d2 ?d3 ?d4 ?d5 ?_)
        case d1 =>
          intro j u hu
          have := (Blk.new W5 42 #[.int .i64 0, .int .i64 0, .int .i64 0, .int .i64 0]).cells j
          rw [at_add, Nat.zero_add]
          refine this.trans ?_
          rw [← hu, ← Array.getElem?_toList]
          rfl
        case d2 => intro u hu; simp only [en4, nop, List.mem_cons, List.not_mem_nil, or_false] at hu; rcases hu with rfl | rfl | rfl | rfl <;> rfl
        case d3 => unfold maxLen; omega
        case d4 => omega
        case d5 => exact (HE5.out.alloc _).size
        intro v7 W7 ho7 hg7 _
        have HE7 := Lib.hid (show Ext W3 W7 from Below.grown (HE5.out.alloc _) hg7 (HE5.out.alloc _).size (own_base4 HO5.out))
        obtain ⟨A7, k7, rfl⟩ := own_form4 ho7
        have HO7 : Hid (W7.ownsRow W3.heap.size 42 4 (.slice A7 (c.ins.length + 1) k7) (c.ins ++ [nop]).length ((c.ins ++ [nop]).flatMap en4)) := Lib.hid (by simpa using ho7)
        have HD7 := Lib.hid (HD3.out.ext HE7.out)
        have HB7 := Lib.hid (HB3.out.ext HE7.out)
        have hlt7 := HD7.out.lt
        have q7 := HD7.out.cells
        have f7 := HD7.out.free
        clear ho7 hg7 cB
        go_wp2_with fail
        go_meet
        refine ⟨A7, k7, W3.heap.size, rfl, HD3.out.lt, own_set4 HO7.out HD3.out.lt 4 _, (HE3.out.trans HE7.out).setCell hlo _, HB7.out.far hne 4 _, ?_⟩
        have := HD7.out.put 4 (.slice A7 (c.ins.length + 1) k7)
        simpa using this
      · obtain ⟨b1, o1, rfl, hb1, hx1⟩ := hr1 (by omega)
        have HO : Hid ((W3.alloc (.cells #[] 42)).ownsRow W3.heap.size 42 4 (.slice (some ⟨W3.heap.size, 0, none⟩) 0 0) 0 []) := Lib.hid (World.ownsRow_made W3 #[] 0 (Nat.le_refl _) (Nat.zero_le _) rfl)
        have HX := Lib.hid hx1
        clear hx1 hr1
        go_wp2_with (at_builtin; refine wpList_append_own _ rfl _ _ 26 rfl W3.heap.size 42 i0 _ 4 32 Try.underlying26 HI.out HZ0.out HZ1.out HZ2.out rfl (by decide) _ 0 [] rfl HO.out ⟨b1, o1, none⟩ c.ins.length c1 (c.ins.flatMap en4) rfl (flat_len _) ?c1 (flat_one _) ?c3 ?c4 ?c5 ?_)
        case c1 =>
          intro j u hu
          obtain ⟨x, e1, e2⟩ := flat_split _ _ _ hu
          have h1 := HX.out _ _ e1 _ _ e2
          rw [at_add, show o1 + j = o1 + j / 4 * 4 + j % 4 by omega]
          exact ((HE3.out.alloc _).cell (p := ⟨b1, _, none⟩) hb1).trans h1
        case c3 => unfold maxLen; omega
        case c4 => omega
        case c5 => simp
        intro v' W5 ho5 hg5 _
        have HE5 := Lib.hid (show Ext W3 W5 from Below.grown ((Ext.refl W3).alloc _) hg5 ((Ext.refl W3).alloc _).size (own_base4 HO.out))
        have HO5 : Hid (W5.ownsRow W3.heap.size 42 4 v' c.ins.length (c.ins.flatMap en4)) := Lib.hid (by simpa using ho5)
        clear ho5 hg5 HO cB
        have cB := (HB3.out.ext HE5.out).cells
        obtain ⟨A5, k5, rfl⟩ := own_form4 HO5.out
        go_wp2_with (at_builtin; refine wpList_append_own _ rfl _ _ 26 rfl W3.heap.size 42 i0 _ 4 32 Try.underlying26 HI.out HZ0.out HZ1.out HZ2.out rfl (by decide) _ c.ins.length (c.ins.flatMap en4) rfl (HO5.out.alloc _) ⟨W5.heap.size, 0, none⟩ 1 1 (en4 nop) rfl rfl ?d1 ?d2 ?d3 ?d4 ?d5 ?_)
        case d1 =>
          intro j u hu
          have := (Blk.new W5 42 #[.int .i64 0, .int .i64 0, .int .i64 0, .int .i64 0]).cells j
          rw [at_add, Nat.zero_add]
          refine this.trans ?_
          rw [← hu, ← Array.getElem?_toList]
          rfl
        case d2 => intro u hu; simp only [en4, nop, List.mem_cons, List.not_mem_nil, or_false] at hu; rcases hu with rfl | rfl | rfl | rfl <;> rfl
        case d3 => unfold maxLen; omega
        case d4 => omega
        case d5 => exact (HE5.out.alloc _).size
        intro v7 W7 ho7 hg7 _
        have HE7 := Lib.hid (show Ext W3 W7 from Below.grown (HE5.out.alloc _) hg7 (HE5.out.alloc _).size (own_base4 HO5.out))
        obtain ⟨A7, k7, rfl⟩ := own_form4 ho7
        have HO7 : Hid (W7.ownsRow W3.heap.size 42 4 (.slice A7 (c.ins.length + 1) k7) (c.ins ++ [nop]).length ((c.ins ++ [nop]).flatMap en4)) := Lib.hid (by simpa using ho7)
        have HD7 := Lib.hid (HD3.out.ext HE7.out)
        have HB7 := Lib.hid (HB3.out.ext HE7.out)
        have hlt7 := HD7.out.lt
        have q7 := HD7.out.cells
        have f7 := HD7.out.free
        clear ho7 hg7 cB
        go_wp2_with fail
        go_meet
        refine ⟨A7, k7, W3.heap.size, rfl, HD3.out.lt, own_set4 HO7.out HD3.out.lt 4 _, (HE3.out.trans HE7.out).setCell hlo _, HB7.out.far hne 4 _, ?_⟩
        have := HD7.out.put 4 (.slice A7 (c.ins.length + 1) k7)
        simpa using this
    case rest =>
      obtain ⟨A, k, B, rfl, hpB, hown, hE, hB2, hD⟩ := hcut
      have HOW := Lib.hid hown
      have HE := Lib.hid hE
      have HB := Lib.hid hB2
      have HD := Lib.hid hD
      have cB := hB2.cells
      have cD := hD.cells
      have fD := hD.free
      have ltD := hD.lt
      clear hown hE hB2 hD
      obtain ⟨hg0, hg1⟩ := regs_in HR.out
      go_upto_region 6 with (fail)
      obtain ⟨hr0, hr1⟩ := and63 m
      generalize bits .and .i64 m 63 = r at hr0 hr1 ⊢
      by_cases hle : c.regs + r ≤ 4096
      · go_upto_region 8 with (fail)
        have HE8 : Hid (Ext w (wc.setCell ⟨w2.heap.size, 3, none⟩ (.int .i64 (c.regs + r)))) := Lib.hid (HE.out.setCell hlo _)
        have HB8 : Hid (Blk (wc.setCell ⟨w2.heap.size, 3, none⟩ (.int .i64 (c.regs + r))) w.heap.size 31 #[.string c.name, .int .i64 c.kind, .int .i64 c.length, .int .i64 c.regs, .slice A1 c.ins.length c1, .slice A2 c.pool.length c2, .slice A3 c.keys.length c3, .slice A4 c.guards.length c4]) := Lib.hid (HB.out.far hne 3 _)
        have HD8 : Hid (Blk (wc.setCell ⟨w2.heap.size, 3, none⟩ (.int .i64 (c.regs + r))) w2.heap.size 31 #[.string c.name, .int .i64 c.kind, .int .i64 c.length, .int .i64 (c.regs + r), .slice A (c.ins.length + 1) k, .slice A2 c.pool.length c2, .slice A3 c.keys.length c3, .slice A4 c.guards.length c4]) := Lib.hid (by simpa using HD.out.put 3 (.int .i64 (c.regs + r)))
        have HO8 : Hid ((wc.setCell ⟨w2.heap.size, 3, none⟩ (.int .i64 (c.regs + r))).ownsRow B 42 4 (.slice A (c.ins.length + 1) k) (c.ins ++ [nop]).length ((c.ins ++ [nop]).flatMap en4)) := Lib.hid (own_set4 HOW.out hpB 3 _)
        have HR8 : Hid (rightB (moreC c (c.regs + r)) = true) := Lib.hid (right_more (by omega) (by omega) s1 HR.out)
        generalize wc.setCell ⟨w2.heap.size, 3, none⟩ (.int .i64 (c.regs + r)) = W8 at HE8 HB8 HD8 HO8 ⊢
        have HI8 : Hid (IsCode W8 (.agg #[.string c.name, .int .i64 c.kind, .int .i64 c.length, .int .i64 (c.regs + r), .slice A (c.ins.length + 1) k, .slice A2 c.pool.length c2, .slice A3 c.keys.length c3, .slice A4 c.guards.length c4]) (moreC c (c.regs + r))) := Lib.hid ⟨_, _, _, _, rfl, sl_of_own4 HO8.out, HS2.out.mono HE8.out, HS3.out.mono HE8.out, HS4.out.mono HE8.out⟩
        have HIN8 : Hid (InRange (moreC c (c.regs + r))) := Lib.hid (inRange_more HIN.out)
        have HL8 : Hid ((moreC c (c.regs + r)).ins.length ≤ 201 ∧ (moreC c (c.regs + r)).guards.length ≤ 200) := Lib.hid ⟨by simp [moreC]; omega, s4⟩
        have HT8 : Hid (targetsL (moreC c (c.regs + r)) = targetsL c) := Lib.hid (targets_more _ HR.out)
        clear cB cD fD ltD HB HD HE HOW
        rename_i KK hKK
        refine region_mono (n := 58) W8 (RM c (moreC c (c.regs + r)) ⟨c.name, c.kind, c.length, c.regs, A1, c.ins.length, c1, A2, c.pool.length, c2, A3, c.keys.length, c3, A4, c.guards.length, c4⟩ ⟨c.name, c.kind, c.length, c.regs + r, A, c.ins.length + 1, k, A2, c.pool.length, c2, A3, c.keys.length, c3, A4, c.guards.length, c4⟩) (by kernel_rfl) (by kernel_rfl) rfl (by kernel_rfl) (by kernel_rfl) (RM.mono c _ _ _) (Ext.refl W8).drew ?_ ?_
        rotate_left
        · intro a9 w9 hx hsz hdf hf hv
          refine hKK _ _ (wp_ret ?_)
          have e4 : sl a9 4 = .bool true := hv 22 4 (by kernel_rfl)
          refine bodyPost_ret (v := .bool true) ?_ hdf ⟨rfl, HE8.out.trans hx⟩
          rw [← e4]
          exact results_more _ _
        · skip
          intro i o s wx ho hx hf hv
          have hE := HE8.out.trans hx
          have hB := HB8.out.ext hx
          have hD := HD8.out.ext hx
          have f2 : s 2 = ptr w.heap.size := hf 2 (by kernel_rfl)
          have f5 : s 5 = ptr w2.heap.size := hf 5 (by kernel_rfl)
          have hi : i < 23 := (Array.getElem?_eq_some_iff.1 ho).1
          rcases (by omega : i = 0 ∨ i = 1 ∨ i = 2 ∨ i = 3 ∨ i = 4 ∨ i = 5 ∨ i = 6 ∨ i = 7 ∨ i = 8 ∨ i = 9 ∨ i = 10 ∨ i = 11 ∨ i = 12 ∨ i = 13 ∨ i = 14 ∨ i = 15 ∨ i = 16 ∨ i = 17 ∨ i = 18 ∨ i = 19 ∨ i = 20 ∨ i = 21 ∨ i = 22) with rfl | rfl | rfl | rfl | rfl | rfl | rfl | rfl | rfl | rfl | rfl | rfl | rfl | rfl | rfl | rfl | rfl | rfl | rfl | rfl | rfl | rfl | rfl
          · injection ho with ho
            subst ho
            refine ⟨fun _ => ?_, fun hw => Bool.noConfusion hw⟩
            exact runs_loadC ⟨c.name, c.kind, c.length, c.regs + r, A, c.ins.length + 1, k, A2, c.pool.length, c2, A3, c.keys.length, c3, A4, c.guards.length, c4⟩ _ f5 hD ⟨Ext.refl _, rfl⟩
          · injection ho with ho
            subst ho
            refine ⟨fun _ => ?_, fun hw => Bool.noConfusion hw⟩
            have q : s 36 = .agg (Raw.row ⟨c.name, c.kind, c.length, c.regs + r, A, c.ins.length + 1, k, A2, c.pool.length, c2, A3, c.keys.length, c3, A4, c.guards.length, c4⟩) := hv ⟨0, .data⟩ (by simp) rfl 36 rfl
            refine runs_fn (f := 18) (args := #[s 36]) (by kernel_rfl) ?_
            rw [q]
            exact (right_any _ (moreC c (c.regs + r)) _ (HI8.out.mono hx) HIN8.out).mono fun e w' ⟨h1, h2⟩ => ⟨_, h1, h2, congrArg Value.bool HR8.out⟩
          · injection ho with ho
            subst ho
            refine ⟨fun _ => ?_, fun hw => Bool.noConfusion hw⟩
            have q : s 37 = .bool true := hv ⟨1, .data⟩ (by simp) rfl 37 rfl
            exact runs_move ⟨Ext.refl _, q⟩
          · injection ho with ho
            subst ho
            refine ⟨fun _ => ?_, fun hw => ?_⟩
            rotate_left
            · rw [wanted_on rfl rfl (hv ⟨2, .guard⟩ (by simp) rfl 38 rfl)] at hw
              exact Bool.noConfusion hw
            exact runs_loadC ⟨c.name, c.kind, c.length, c.regs, A1, c.ins.length, c1, A2, c.pool.length, c2, A3, c.keys.length, c3, A4, c.guards.length, c4⟩ _ f2 hB ⟨Ext.refl _, rfl⟩
          · injection ho with ho
            subst ho
            refine ⟨fun _ => ?_, fun hw => ?_⟩
            rotate_left
            · rw [wanted_on rfl rfl (hv ⟨2, .guard⟩ (by simp) rfl 38 rfl)] at hw
              exact Bool.noConfusion hw
            have q : s 39 = .agg (Raw.row ⟨c.name, c.kind, c.length, c.regs, A1, c.ins.length, c1, A2, c.pool.length, c2, A3, c.keys.length, c3, A4, c.guards.length, c4⟩) := hv ⟨3, .data⟩ (by simp) rfl 39 rfl
            refine runs_fn (f := 21) (args := #[s 39]) (by kernel_rfl) ?_
            rw [q]
            exact (targets_any _ c _ (HC.out.mono hE) s1 s4).mono fun e w' ⟨v, h1, h2, h3⟩ => ⟨v, h1, h3, sl_of_own h2⟩
          · injection ho with ho
            subst ho
            refine ⟨fun _ => ?_, fun hw => ?_⟩
            rotate_left
            · rw [wanted_on rfl rfl (hv ⟨2, .guard⟩ (by simp) rfl 38 rfl)] at hw
              exact Bool.noConfusion hw
            exact runs_loadC ⟨c.name, c.kind, c.length, c.regs + r, A, c.ins.length + 1, k, A2, c.pool.length, c2, A3, c.keys.length, c3, A4, c.guards.length, c4⟩ _ f5 hD ⟨Ext.refl _, rfl⟩
          · injection ho with ho
            subst ho
            refine ⟨fun _ => ?_, fun hw => ?_⟩
            rotate_left
            · rw [wanted_on rfl rfl (hv ⟨2, .guard⟩ (by simp) rfl 38 rfl)] at hw
              exact Bool.noConfusion hw
            have q : s 41 = .agg (Raw.row ⟨c.name, c.kind, c.length, c.regs + r, A, c.ins.length + 1, k, A2, c.pool.length, c2, A3, c.keys.length, c3, A4, c.guards.length, c4⟩) := hv ⟨5, .data⟩ (by simp) rfl 41 rfl
            refine runs_fn (f := 21) (args := #[s 41]) (by kernel_rfl) ?_
            rw [q]
            exact (targets_any1 _ (moreC c (c.regs + r)) _ (HI8.out.mono hx) HL8.out.1 HL8.out.2).mono fun e w' ⟨v, h1, h2, h3⟩ => ⟨v, h1, h3, (show Sl w' 1 en1 v (targetsL c) from HT8.out ▸ sl_of_own h2)⟩
          · injection ho with ho
            subst ho
            refine ⟨fun _ => ?_, fun hw => ?_⟩
            rotate_left
            · rw [wanted_on rfl rfl (hv ⟨2, .guard⟩ (by simp) rfl 38 rfl)] at hw
              exact Bool.noConfusion hw
            have q1 : Sl wx 1 en1 (s 40) (targetsL c) := hv ⟨4, .data⟩ (by simp) rfl 40 rfl
            have q2 : Sl wx 1 en1 (s 42) (targetsL c) := hv ⟨6, .data⟩ (by simp) rfl 42 rfl
            refine runs_fn (f := 20) (args := #[s 40, s 42]) (by kernel_rfl) ?_
            exact (sameInts_any _ _ _ _ _ q1 q2).mono fun e w' ⟨h1, h2⟩ => ⟨_, h1, h2, by show Value.bool _ = _; simp⟩
          · injection ho with ho
            subst ho
            refine ⟨fun _ => ?_, fun hw => Bool.noConfusion hw⟩
            have q1 : s 38 = .bool true := hv ⟨2, .data⟩ (by simp) rfl 38 rfl
            have q2 : s 43 = .bool true := hv ⟨7, .data⟩ (by simp) rfl 43 rfl
            exact runs_pick q1 ⟨Ext.refl _, q2⟩
          · injection ho with ho
            subst ho
            refine ⟨fun _ => ?_, fun hw => Bool.noConfusion hw⟩
            have q : s 44 = .bool true := hv ⟨8, .data⟩ (by simp) rfl 44 rfl
            exact runs_move ⟨Ext.refl _, q⟩
          · injection ho with ho
            subst ho
            refine ⟨fun _ => ?_, fun hw => ?_⟩
            rotate_left
            · rw [wanted_on rfl rfl (hv ⟨9, .guard⟩ (by simp) rfl 45 rfl)] at hw
              exact Bool.noConfusion hw
            exact runs_loadC ⟨c.name, c.kind, c.length, c.regs, A1, c.ins.length, c1, A2, c.pool.length, c2, A3, c.keys.length, c3, A4, c.guards.length, c4⟩ _ f2 hB ⟨Ext.refl _, rfl⟩
          · injection ho with ho
            subst ho
            refine ⟨fun _ => ?_, fun hw => ?_⟩
            rotate_left
            · rw [wanted_on rfl rfl (hv ⟨9, .guard⟩ (by simp) rfl 45 rfl)] at hw
              exact Bool.noConfusion hw
            have q : s 46 = .agg (Raw.row ⟨c.name, c.kind, c.length, c.regs, A1, c.ins.length, c1, A2, c.pool.length, c2, A3, c.keys.length, c3, A4, c.guards.length, c4⟩) := hv ⟨10, .data⟩ (by simp) rfl 46 rfl
            exact runs_build1 ⟨c.name, c.kind, c.length, c.regs, A1, c.ins.length, c1, A2, c.pool.length, c2, A3, c.keys.length, c3, A4, c.guards.length, c4⟩ q ⟨(Ext.refl _).alloc _, ⟨_, rfl, slC_one (Blk.new _ _ _) ((HC.out.mono hE).mono ((Ext.refl _).alloc _))⟩⟩
          · injection ho with ho
            subst ho
            refine ⟨fun _ => ?_, fun hw => ?_⟩
            rotate_left
            · rw [wanted_on rfl rfl (hv ⟨9, .guard⟩ (by simp) rfl 45 rfl)] at hw
              exact Bool.noConfusion hw
            have q0 : ∃ b, s 47 = slc b 1 ∧ SlC wx (slc b 1) [c] := hv ⟨11, .data⟩ (by simp) rfl 47 rfl
            obtain ⟨b, q, hs⟩ := q0
            exact runs_image b 1 q ⟨Ext.refl _, ⟨b, rfl, hs⟩⟩
          · injection ho with ho
            subst ho
            refine ⟨fun _ => ?_, fun hw => ?_⟩
            rotate_left
            · rw [wanted_on rfl rfl (hv ⟨9, .guard⟩ (by simp) rfl 45 rfl)] at hw
              exact Bool.noConfusion hw
            exact runs_loadC ⟨c.name, c.kind, c.length, c.regs + r, A, c.ins.length + 1, k, A2, c.pool.length, c2, A3, c.keys.length, c3, A4, c.guards.length, c4⟩ _ f5 hD ⟨Ext.refl _, rfl⟩
          · injection ho with ho
            subst ho
            refine ⟨fun _ => ?_, fun hw => ?_⟩
            rotate_left
            · rw [wanted_on rfl rfl (hv ⟨9, .guard⟩ (by simp) rfl 45 rfl)] at hw
              exact Bool.noConfusion hw
            have q : s 49 = .agg (Raw.row ⟨c.name, c.kind, c.length, c.regs + r, A, c.ins.length + 1, k, A2, c.pool.length, c2, A3, c.keys.length, c3, A4, c.guards.length, c4⟩) := hv ⟨13, .data⟩ (by simp) rfl 49 rfl
            exact runs_build1 ⟨c.name, c.kind, c.length, c.regs + r, A, c.ins.length + 1, k, A2, c.pool.length, c2, A3, c.keys.length, c3, A4, c.guards.length, c4⟩ q ⟨(Ext.refl _).alloc _, ⟨_, rfl, slC_one (Blk.new _ _ _) ((HI8.out.mono hx).mono ((Ext.refl _).alloc _))⟩⟩
          · injection ho with ho
            subst ho
            refine ⟨fun _ => ?_, fun hw => ?_⟩
            rotate_left
            · rw [wanted_on rfl rfl (hv ⟨9, .guard⟩ (by simp) rfl 45 rfl)] at hw
              exact Bool.noConfusion hw
            have q0 : ∃ b, s 50 = slc b 1 ∧ SlC wx (slc b 1) [(moreC c (c.regs + r))] := hv ⟨14, .data⟩ (by simp) rfl 50 rfl
            obtain ⟨b, q, hs⟩ := q0
            exact runs_image b 1 q ⟨Ext.refl _, ⟨b, rfl, hs⟩⟩
          · injection ho with ho
            subst ho
            refine ⟨fun _ => ?_, fun hw => ?_⟩
            rotate_left
            · rw [wanted_on rfl rfl (hv ⟨9, .guard⟩ (by simp) rfl 45 rfl)] at hw
              exact Bool.noConfusion hw
            have q0 : ∃ b, s 48 = .agg #[slc b 1] ∧ SlC wx (slc b 1) [c] := hv ⟨12, .data⟩ (by simp) rfl 48 rfl
            have q1 : ∃ b, s 51 = .agg #[slc b 1] ∧ SlC wx (slc b 1) [(moreC c (c.regs + r))] := hv ⟨15, .data⟩ (by simp) rfl 51 rfl
            obtain ⟨b0, e0, k0⟩ := q0
            obtain ⟨b1, e1, k1⟩ := q1
            refine runs_fn (f := 16) (args := #[s 48, s 51]) (by kernel_rfl) ?_
            rw [e0, e1]
            exact (same_any _ _ _ _ _ k0 k1).mono fun e w' ⟨h1, h2⟩ => ⟨_, h1, h2, by show Value.bool _ = _; rw [decide_eq_false (more_ne c _)]⟩
          · injection ho with ho
            subst ho
            refine ⟨fun _ => ?_, fun hw => ?_⟩
            rotate_left
            · rw [wanted_on rfl rfl (hv ⟨9, .guard⟩ (by simp) rfl 45 rfl)] at hw
              exact Bool.noConfusion hw
            have q : s 52 = .bool false := hv ⟨16, .data⟩ (by simp) rfl 52 rfl
            exact runs_not q ⟨Ext.refl _, rfl⟩
          · injection ho with ho
            subst ho
            refine ⟨fun _ => ?_, fun hw => Bool.noConfusion hw⟩
            have q1 : s 45 = .bool true := hv ⟨9, .data⟩ (by simp) rfl 45 rfl
            have q2 : s 53 = .bool true := hv ⟨17, .data⟩ (by simp) rfl 53 rfl
            exact runs_pick q1 ⟨Ext.refl _, q2⟩
          · injection ho with ho
            subst ho
            refine ⟨fun _ => ?_, fun hw => Bool.noConfusion hw⟩
            have q : s 54 = .bool true := hv ⟨18, .data⟩ (by simp) rfl 54 rfl
            exact runs_move ⟨Ext.refl _, q⟩
          · injection ho with ho
            subst ho
            refine ⟨fun _ => ?_, fun hw => ?_⟩
            rotate_left
            · rw [wanted_on rfl rfl (hv ⟨19, .guard⟩ (by simp) rfl 55 rfl)] at hw
              exact Bool.noConfusion hw
            refine runs_fn (f := 14) (args := #[]) (by kernel_rfl) ?_
            exact (lives_any _).mono fun e w' ⟨h1, h2⟩ => ⟨_, h1, h2, rfl⟩
          · injection ho with ho
            subst ho
            refine ⟨fun _ => ?_, fun hw => Bool.noConfusion hw⟩
            have q1 : s 55 = .bool true := hv ⟨19, .data⟩ (by simp) rfl 55 rfl
            have q2 : s 56 = .bool true := hv ⟨20, .data⟩ (by simp) rfl 56 rfl
            exact runs_pick q1 ⟨Ext.refl _, q2⟩
          · injection ho with ho
            subst ho
            refine ⟨fun _ => ?_, fun hw => Bool.noConfusion hw⟩
            have q : s 57 = .bool true := hv ⟨21, .data⟩ (by simp) rfl 57 rfl
            exact runs_assign ⟨Ext.refl _, q⟩
      · go_upto_region 8 with (fail)
        have HE8 : Hid (Ext w (wc)) := Lib.hid (HE.out)
        have HB8 : Hid (Blk (wc) w.heap.size 31 #[.string c.name, .int .i64 c.kind, .int .i64 c.length, .int .i64 c.regs, .slice A1 c.ins.length c1, .slice A2 c.pool.length c2, .slice A3 c.keys.length c3, .slice A4 c.guards.length c4]) := Lib.hid (HB.out)
        have HD8 : Hid (Blk (wc) w2.heap.size 31 #[.string c.name, .int .i64 c.kind, .int .i64 c.length, .int .i64 (c.regs), .slice A (c.ins.length + 1) k, .slice A2 c.pool.length c2, .slice A3 c.keys.length c3, .slice A4 c.guards.length c4]) := Lib.hid (HD.out)
        have HO8 : Hid ((wc).ownsRow B 42 4 (.slice A (c.ins.length + 1) k) (c.ins ++ [nop]).length ((c.ins ++ [nop]).flatMap en4)) := Lib.hid (HOW.out)
        have HR8 : Hid (rightB (moreC c (c.regs)) = true) := Lib.hid (right_more (by omega) (by omega) s1 HR.out)
        obtain ⟨W8, rfl⟩ : ∃ W8, W8 = wc := ⟨_, rfl⟩
        have HI8 : Hid (IsCode W8 (.agg #[.string c.name, .int .i64 c.kind, .int .i64 c.length, .int .i64 (c.regs), .slice A (c.ins.length + 1) k, .slice A2 c.pool.length c2, .slice A3 c.keys.length c3, .slice A4 c.guards.length c4]) (moreC c (c.regs))) := Lib.hid ⟨_, _, _, _, rfl, sl_of_own4 HO8.out, HS2.out.mono HE8.out, HS3.out.mono HE8.out, HS4.out.mono HE8.out⟩
        have HIN8 : Hid (InRange (moreC c (c.regs))) := Lib.hid (inRange_more HIN.out)
        have HL8 : Hid ((moreC c (c.regs)).ins.length ≤ 201 ∧ (moreC c (c.regs)).guards.length ≤ 200) := Lib.hid ⟨by simp [moreC]; omega, s4⟩
        have HT8 : Hid (targetsL (moreC c (c.regs)) = targetsL c) := Lib.hid (targets_more _ HR.out)
        clear cB cD fD ltD HB HD HE HOW
        rename_i KK hKK
        refine region_mono (n := 58) W8 (RM c (moreC c (c.regs)) ⟨c.name, c.kind, c.length, c.regs, A1, c.ins.length, c1, A2, c.pool.length, c2, A3, c.keys.length, c3, A4, c.guards.length, c4⟩ ⟨c.name, c.kind, c.length, c.regs, A, c.ins.length + 1, k, A2, c.pool.length, c2, A3, c.keys.length, c3, A4, c.guards.length, c4⟩) (by kernel_rfl) (by kernel_rfl) rfl (by kernel_rfl) (by kernel_rfl) (RM.mono c _ _ _) (Ext.refl W8).drew ?_ ?_
        rotate_left
        · intro a9 w9 hx hsz hdf hf hv
          refine hKK _ _ (wp_ret ?_)
          have e4 : sl a9 4 = .bool true := hv 22 4 (by kernel_rfl)
          refine bodyPost_ret (v := .bool true) ?_ hdf ⟨rfl, HE8.out.trans hx⟩
          rw [← e4]
          exact results_more _ _
        · skip
          intro i o s wx ho hx hf hv
          have hE := HE8.out.trans hx
          have hB := HB8.out.ext hx
          have hD := HD8.out.ext hx
          have f2 : s 2 = ptr w.heap.size := hf 2 (by kernel_rfl)
          have f5 : s 5 = ptr w2.heap.size := hf 5 (by kernel_rfl)
          have hi : i < 23 := (Array.getElem?_eq_some_iff.1 ho).1
          rcases (by omega : i = 0 ∨ i = 1 ∨ i = 2 ∨ i = 3 ∨ i = 4 ∨ i = 5 ∨ i = 6 ∨ i = 7 ∨ i = 8 ∨ i = 9 ∨ i = 10 ∨ i = 11 ∨ i = 12 ∨ i = 13 ∨ i = 14 ∨ i = 15 ∨ i = 16 ∨ i = 17 ∨ i = 18 ∨ i = 19 ∨ i = 20 ∨ i = 21 ∨ i = 22) with rfl | rfl | rfl | rfl | rfl | rfl | rfl | rfl | rfl | rfl | rfl | rfl | rfl | rfl | rfl | rfl | rfl | rfl | rfl | rfl | rfl | rfl | rfl
          · injection ho with ho
            subst ho
            refine ⟨fun _ => ?_, fun hw => Bool.noConfusion hw⟩
            exact runs_loadC ⟨c.name, c.kind, c.length, c.regs, A, c.ins.length + 1, k, A2, c.pool.length, c2, A3, c.keys.length, c3, A4, c.guards.length, c4⟩ _ f5 hD ⟨Ext.refl _, rfl⟩
          · injection ho with ho
            subst ho
            refine ⟨fun _ => ?_, fun hw => Bool.noConfusion hw⟩
            have q : s 36 = .agg (Raw.row ⟨c.name, c.kind, c.length, c.regs, A, c.ins.length + 1, k, A2, c.pool.length, c2, A3, c.keys.length, c3, A4, c.guards.length, c4⟩) := hv ⟨0, .data⟩ (by simp) rfl 36 rfl
            refine runs_fn (f := 18) (args := #[s 36]) (by kernel_rfl) ?_
            rw [q]
            exact (right_any _ (moreC c (c.regs)) _ (HI8.out.mono hx) HIN8.out).mono fun e w' ⟨h1, h2⟩ => ⟨_, h1, h2, congrArg Value.bool HR8.out⟩
          · injection ho with ho
            subst ho
            refine ⟨fun _ => ?_, fun hw => Bool.noConfusion hw⟩
            have q : s 37 = .bool true := hv ⟨1, .data⟩ (by simp) rfl 37 rfl
            exact runs_move ⟨Ext.refl _, q⟩
          · injection ho with ho
            subst ho
            refine ⟨fun _ => ?_, fun hw => ?_⟩
            rotate_left
            · rw [wanted_on rfl rfl (hv ⟨2, .guard⟩ (by simp) rfl 38 rfl)] at hw
              exact Bool.noConfusion hw
            exact runs_loadC ⟨c.name, c.kind, c.length, c.regs, A1, c.ins.length, c1, A2, c.pool.length, c2, A3, c.keys.length, c3, A4, c.guards.length, c4⟩ _ f2 hB ⟨Ext.refl _, rfl⟩
          · injection ho with ho
            subst ho
            refine ⟨fun _ => ?_, fun hw => ?_⟩
            rotate_left
            · rw [wanted_on rfl rfl (hv ⟨2, .guard⟩ (by simp) rfl 38 rfl)] at hw
              exact Bool.noConfusion hw
            have q : s 39 = .agg (Raw.row ⟨c.name, c.kind, c.length, c.regs, A1, c.ins.length, c1, A2, c.pool.length, c2, A3, c.keys.length, c3, A4, c.guards.length, c4⟩) := hv ⟨3, .data⟩ (by simp) rfl 39 rfl
            refine runs_fn (f := 21) (args := #[s 39]) (by kernel_rfl) ?_
            rw [q]
            exact (targets_any _ c _ (HC.out.mono hE) s1 s4).mono fun e w' ⟨v, h1, h2, h3⟩ => ⟨v, h1, h3, sl_of_own h2⟩
          · injection ho with ho
            subst ho
            refine ⟨fun _ => ?_, fun hw => ?_⟩
            rotate_left
            · rw [wanted_on rfl rfl (hv ⟨2, .guard⟩ (by simp) rfl 38 rfl)] at hw
              exact Bool.noConfusion hw
            exact runs_loadC ⟨c.name, c.kind, c.length, c.regs, A, c.ins.length + 1, k, A2, c.pool.length, c2, A3, c.keys.length, c3, A4, c.guards.length, c4⟩ _ f5 hD ⟨Ext.refl _, rfl⟩
          · injection ho with ho
            subst ho
            refine ⟨fun _ => ?_, fun hw => ?_⟩
            rotate_left
            · rw [wanted_on rfl rfl (hv ⟨2, .guard⟩ (by simp) rfl 38 rfl)] at hw
              exact Bool.noConfusion hw
            have q : s 41 = .agg (Raw.row ⟨c.name, c.kind, c.length, c.regs, A, c.ins.length + 1, k, A2, c.pool.length, c2, A3, c.keys.length, c3, A4, c.guards.length, c4⟩) := hv ⟨5, .data⟩ (by simp) rfl 41 rfl
            refine runs_fn (f := 21) (args := #[s 41]) (by kernel_rfl) ?_
            rw [q]
            exact (targets_any1 _ (moreC c (c.regs)) _ (HI8.out.mono hx) HL8.out.1 HL8.out.2).mono fun e w' ⟨v, h1, h2, h3⟩ => ⟨v, h1, h3, (show Sl w' 1 en1 v (targetsL c) from HT8.out ▸ sl_of_own h2)⟩
          · injection ho with ho
            subst ho
            refine ⟨fun _ => ?_, fun hw => ?_⟩
            rotate_left
            · rw [wanted_on rfl rfl (hv ⟨2, .guard⟩ (by simp) rfl 38 rfl)] at hw
              exact Bool.noConfusion hw
            have q1 : Sl wx 1 en1 (s 40) (targetsL c) := hv ⟨4, .data⟩ (by simp) rfl 40 rfl
            have q2 : Sl wx 1 en1 (s 42) (targetsL c) := hv ⟨6, .data⟩ (by simp) rfl 42 rfl
            refine runs_fn (f := 20) (args := #[s 40, s 42]) (by kernel_rfl) ?_
            exact (sameInts_any _ _ _ _ _ q1 q2).mono fun e w' ⟨h1, h2⟩ => ⟨_, h1, h2, by show Value.bool _ = _; simp⟩
          · injection ho with ho
            subst ho
            refine ⟨fun _ => ?_, fun hw => Bool.noConfusion hw⟩
            have q1 : s 38 = .bool true := hv ⟨2, .data⟩ (by simp) rfl 38 rfl
            have q2 : s 43 = .bool true := hv ⟨7, .data⟩ (by simp) rfl 43 rfl
            exact runs_pick q1 ⟨Ext.refl _, q2⟩
          · injection ho with ho
            subst ho
            refine ⟨fun _ => ?_, fun hw => Bool.noConfusion hw⟩
            have q : s 44 = .bool true := hv ⟨8, .data⟩ (by simp) rfl 44 rfl
            exact runs_move ⟨Ext.refl _, q⟩
          · injection ho with ho
            subst ho
            refine ⟨fun _ => ?_, fun hw => ?_⟩
            rotate_left
            · rw [wanted_on rfl rfl (hv ⟨9, .guard⟩ (by simp) rfl 45 rfl)] at hw
              exact Bool.noConfusion hw
            exact runs_loadC ⟨c.name, c.kind, c.length, c.regs, A1, c.ins.length, c1, A2, c.pool.length, c2, A3, c.keys.length, c3, A4, c.guards.length, c4⟩ _ f2 hB ⟨Ext.refl _, rfl⟩
          · injection ho with ho
            subst ho
            refine ⟨fun _ => ?_, fun hw => ?_⟩
            rotate_left
            · rw [wanted_on rfl rfl (hv ⟨9, .guard⟩ (by simp) rfl 45 rfl)] at hw
              exact Bool.noConfusion hw
            have q : s 46 = .agg (Raw.row ⟨c.name, c.kind, c.length, c.regs, A1, c.ins.length, c1, A2, c.pool.length, c2, A3, c.keys.length, c3, A4, c.guards.length, c4⟩) := hv ⟨10, .data⟩ (by simp) rfl 46 rfl
            exact runs_build1 ⟨c.name, c.kind, c.length, c.regs, A1, c.ins.length, c1, A2, c.pool.length, c2, A3, c.keys.length, c3, A4, c.guards.length, c4⟩ q ⟨(Ext.refl _).alloc _, ⟨_, rfl, slC_one (Blk.new _ _ _) ((HC.out.mono hE).mono ((Ext.refl _).alloc _))⟩⟩
          · injection ho with ho
            subst ho
            refine ⟨fun _ => ?_, fun hw => ?_⟩
            rotate_left
            · rw [wanted_on rfl rfl (hv ⟨9, .guard⟩ (by simp) rfl 45 rfl)] at hw
              exact Bool.noConfusion hw
            have q0 : ∃ b, s 47 = slc b 1 ∧ SlC wx (slc b 1) [c] := hv ⟨11, .data⟩ (by simp) rfl 47 rfl
            obtain ⟨b, q, hs⟩ := q0
            exact runs_image b 1 q ⟨Ext.refl _, ⟨b, rfl, hs⟩⟩
          · injection ho with ho
            subst ho
            refine ⟨fun _ => ?_, fun hw => ?_⟩
            rotate_left
            · rw [wanted_on rfl rfl (hv ⟨9, .guard⟩ (by simp) rfl 45 rfl)] at hw
              exact Bool.noConfusion hw
            exact runs_loadC ⟨c.name, c.kind, c.length, c.regs, A, c.ins.length + 1, k, A2, c.pool.length, c2, A3, c.keys.length, c3, A4, c.guards.length, c4⟩ _ f5 hD ⟨Ext.refl _, rfl⟩
          · injection ho with ho
            subst ho
            refine ⟨fun _ => ?_, fun hw => ?_⟩
            rotate_left
            · rw [wanted_on rfl rfl (hv ⟨9, .guard⟩ (by simp) rfl 45 rfl)] at hw
              exact Bool.noConfusion hw
            have q : s 49 = .agg (Raw.row ⟨c.name, c.kind, c.length, c.regs, A, c.ins.length + 1, k, A2, c.pool.length, c2, A3, c.keys.length, c3, A4, c.guards.length, c4⟩) := hv ⟨13, .data⟩ (by simp) rfl 49 rfl
            exact runs_build1 ⟨c.name, c.kind, c.length, c.regs, A, c.ins.length + 1, k, A2, c.pool.length, c2, A3, c.keys.length, c3, A4, c.guards.length, c4⟩ q ⟨(Ext.refl _).alloc _, ⟨_, rfl, slC_one (Blk.new _ _ _) ((HI8.out.mono hx).mono ((Ext.refl _).alloc _))⟩⟩
          · injection ho with ho
            subst ho
            refine ⟨fun _ => ?_, fun hw => ?_⟩
            rotate_left
            · rw [wanted_on rfl rfl (hv ⟨9, .guard⟩ (by simp) rfl 45 rfl)] at hw
              exact Bool.noConfusion hw
            have q0 : ∃ b, s 50 = slc b 1 ∧ SlC wx (slc b 1) [(moreC c (c.regs))] := hv ⟨14, .data⟩ (by simp) rfl 50 rfl
            obtain ⟨b, q, hs⟩ := q0
            exact runs_image b 1 q ⟨Ext.refl _, ⟨b, rfl, hs⟩⟩
          · injection ho with ho
            subst ho
            refine ⟨fun _ => ?_, fun hw => ?_⟩
            rotate_left
            · rw [wanted_on rfl rfl (hv ⟨9, .guard⟩ (by simp) rfl 45 rfl)] at hw
              exact Bool.noConfusion hw
            have q0 : ∃ b, s 48 = .agg #[slc b 1] ∧ SlC wx (slc b 1) [c] := hv ⟨12, .data⟩ (by simp) rfl 48 rfl
            have q1 : ∃ b, s 51 = .agg #[slc b 1] ∧ SlC wx (slc b 1) [(moreC c (c.regs))] := hv ⟨15, .data⟩ (by simp) rfl 51 rfl
            obtain ⟨b0, e0, k0⟩ := q0
            obtain ⟨b1, e1, k1⟩ := q1
            refine runs_fn (f := 16) (args := #[s 48, s 51]) (by kernel_rfl) ?_
            rw [e0, e1]
            exact (same_any _ _ _ _ _ k0 k1).mono fun e w' ⟨h1, h2⟩ => ⟨_, h1, h2, by show Value.bool _ = _; rw [decide_eq_false (more_ne c _)]⟩
          · injection ho with ho
            subst ho
            refine ⟨fun _ => ?_, fun hw => ?_⟩
            rotate_left
            · rw [wanted_on rfl rfl (hv ⟨9, .guard⟩ (by simp) rfl 45 rfl)] at hw
              exact Bool.noConfusion hw
            have q : s 52 = .bool false := hv ⟨16, .data⟩ (by simp) rfl 52 rfl
            exact runs_not q ⟨Ext.refl _, rfl⟩
          · injection ho with ho
            subst ho
            refine ⟨fun _ => ?_, fun hw => Bool.noConfusion hw⟩
            have q1 : s 45 = .bool true := hv ⟨9, .data⟩ (by simp) rfl 45 rfl
            have q2 : s 53 = .bool true := hv ⟨17, .data⟩ (by simp) rfl 53 rfl
            exact runs_pick q1 ⟨Ext.refl _, q2⟩
          · injection ho with ho
            subst ho
            refine ⟨fun _ => ?_, fun hw => Bool.noConfusion hw⟩
            have q : s 54 = .bool true := hv ⟨18, .data⟩ (by simp) rfl 54 rfl
            exact runs_move ⟨Ext.refl _, q⟩
          · injection ho with ho
            subst ho
            refine ⟨fun _ => ?_, fun hw => ?_⟩
            rotate_left
            · rw [wanted_on rfl rfl (hv ⟨19, .guard⟩ (by simp) rfl 55 rfl)] at hw
              exact Bool.noConfusion hw
            refine runs_fn (f := 14) (args := #[]) (by kernel_rfl) ?_
            exact (lives_any _).mono fun e w' ⟨h1, h2⟩ => ⟨_, h1, h2, rfl⟩
          · injection ho with ho
            subst ho
            refine ⟨fun _ => ?_, fun hw => Bool.noConfusion hw⟩
            have q1 : s 55 = .bool true := hv ⟨19, .data⟩ (by simp) rfl 55 rfl
            have q2 : s 56 = .bool true := hv ⟨20, .data⟩ (by simp) rfl 56 rfl
            exact runs_pick q1 ⟨Ext.refl _, q2⟩
          · injection ho with ho
            subst ho
            refine ⟨fun _ => ?_, fun hw => Bool.noConfusion hw⟩
            have q : s 57 = .bool true := hv ⟨21, .data⟩ (by simp) rfl 57 rfl
            exact runs_assign ⟨Ext.refl _, q⟩
end Go.Proofs.Ytagdompikjhnoaa
